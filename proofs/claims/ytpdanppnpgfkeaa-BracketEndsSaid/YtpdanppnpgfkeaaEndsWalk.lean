/- The walk of BracketEnds. -/
import Derived.Test.YtpdanppnpgfkeaaCnt
namespace Go.Proofs.Ytpdanppnpgfkeaa
open Go.RowKit Go.Maps

/-- a slice of integers, with its cells -/
def IsRow (k : IntKind) (w : World) (a : Option Addr) (len cap : Nat) (zs : List Int) : Prop :=
  (a = none ∧ len = 0 ∧ cap = 0 ∧ zs = []) ∨
  ∃ x, a = some x ∧ len ≤ cap ∧ cap ≤ maxLen ∧ zs.length = cap ∧ (∀ i, i < zs.length → w.cell? (x.add i) = some (.int k (zs.getD i 0))) ∧ ∀ n ∈ zs, (Lit.int k n).wf = true

theorem IsRow.cells {k : IntKind} {w : World} {a : Option Addr} {len cap : Nat} {zs : List Int} (h : IsRow k w a len cap zs) (hl : 0 < len) :
    ∃ b off, a = some ⟨b, off, none⟩ ∧ b < w.heap.size ∧ (∀ i, i < len → w.cell? ⟨b, off + i, none⟩ = some (.int k (zs.getD i 0))) := by
  rcases h with ⟨rfl, rfl, rfl, rfl⟩ | ⟨x, rfl, h1, h2, h3, hc, h4⟩
  · omega
  · obtain ⟨b, off, spot⟩ := x
    have hc0 := hc 0 (by omega)
    have hspot : spot = none := by simpa [Addr.add] using World.cell?_spot hc0
    subst hspot
    refine ⟨b, off, rfl, ?_, fun i hi => ?_⟩
    case refine_2 =>
      have := hc i (by omega)
      rw [Addr.add_mid] at this
      exact this
    · rw [Addr.add_mid] at hc0
      exact World.block_lt_of_cell? w _ hc0

theorem IsRow.wf {k : IntKind} {w : World} {a : Option Addr} {len cap : Nat} {zs : List Int} (h : IsRow k w a len cap zs) (i : Nat) (hi : i < len) : (Lit.int k (zs.getD i 0)).wf = true := by
  rcases h with ⟨rfl, rfl, rfl, rfl⟩ | ⟨x, rfl, h1, h2, h3, hc, h4⟩
  · omega
  · apply h4
    have : i < zs.length := by omega
    simp [List.getD_eq_getElem?_getD, List.getElem?_eq_getElem this]

theorem openL_mem {W : Nat → Nat → Int} {P : Nat → Nat → Bool} {R r q : Nat} (hr : r < R) (hq : q < 2 ^ (R - r - 1)) (hx : 0 ≤ W r (2 * q)) (hy : 0 ≤ W r (2 * q + 1)) (hp : P r q = false) : (⟨r, q, W r (2 * q), W r (2 * q + 1)⟩ : Mt) ∈ openL W P R := by
  unfold openL openUpto
  refine List.mem_flatMap.2 ⟨r, by simpa using hr, ?_⟩
  unfold openRow
  refine List.mem_flatMap.2 ⟨q, by simpa using hq, ?_⟩
  unfold openAt
  simp [hx, hy, hp]

section
variable {n : Nat} {W : Nat → Nat → Int} {P : Nat → Nat → Bool}

/-- while less than n - 1 matches are decided there is no champion, and a match is open -/
theorem Inv.goes (h : Inv n (Rn n) W P) (hn : 2 ≤ n ∧ n ≤ 16) {i : Nat} (hc : cnt P (Rn n) = i) (hi : i < n - 1) : ¬ 0 ≤ W (Rn n) 0 ∧ 0 < (openL W P (Rn n)).length := by
  have hnot : ¬ AllM n (Rn n) P := fun ha => by
    have := h.cnt_of_all ha
    rw [cntM hn] at this
    omega
  refine ⟨fun hw => hnot (h.all_of_champ (Rn_ok hn).1 hw), ?_⟩
  cases ho : openL W P (Rn n) with
  | cons m l => simp
  | nil =>
    exfalso
    refine hnot (h.all_of_none (pairs hn) fun r q hr hq hx hy => ?_)
    cases hp : P r q with
    | true => rfl
    | false =>
      have := openL_mem hr hq hx hy hp
      rw [ho] at this
      cases this

/-- behind n - 1 decided matches -/
theorem Inv.ended (h : Inv n (Rn n) W P) (hn : 2 ≤ n ∧ n ≤ 16) (hc : cnt P (Rn n) = n - 1) : 0 ≤ W (Rn n) 0 ∧ openL W P (Rn n) = [] ∧ ∀ (a : Nat) (v : Value), a < n → OutAns W P (Rn n) a v →
    ((a : Int) = W (Rn n) 0 ∧ v = .tuple #[.int .i64 0, .bool false]) ∨ ((a : Int) ≠ W (Rn n) 0 ∧ ∃ r : Nat, r < Rn n ∧ v = .tuple #[.int .i64 r, .bool true]) := by
  obtain ⟨r1, r4, hnR, _⟩ := Rn_ok hn
  have ha := h.all_of_cnt (by rw [hc, cntM hn])
  refine ⟨h.champ_of_all (pairs hn) r1 ha, ?_, fun a v han ho => ?_⟩
  · cases ho : openL W P (Rn n) with
    | nil => rfl
    | cons m l =>
      exfalso
      have hm : m ∈ openL W P (Rn n) := by rw [ho]; simp
      obtain ⟨r, q, hr, hq, _, hx, hy, hp⟩ := mem_openL hm
      have hM : isM n (Rn n) (r, q) = true := by
        unfold isM
        by_cases h0 : r = 0
        · subst h0
          obtain ⟨l1, l2⟩ := two_lt hr hq
          rw [h.i0 _ (by simpa using l1)] at hx
          rw [h.i0 _ (by simpa using l2)] at hy
          simp [hx, hy]
        · simp [h0]
      rw [ha r q hr hq hM] at hp
      cases hp
  · by_cases hac : W (Rn n) 0 = a
    · left
      refine ⟨hac.symm, ?_⟩
      rcases ho with ⟨r, q, hr, hq, hh, _⟩ | ⟨_, hv⟩
      · rw [h.champ_not r4 hac hr hq] at hh; cases hh
      · exact hv
    · right
      refine ⟨fun e => hac e.symm, ?_⟩
      rcases ho with ⟨r, q, hr, hq, _, hv⟩ | ⟨hno, _⟩
      · exact ⟨r, hr, hv⟩
      · obtain ⟨r, q, hr, hq, hh⟩ := h.lost (pairs hn) ⟨r1, r4⟩ hnR ha han hac
        rw [hno r q hr hq] at hh
        cases hh
end

set_option maxRecDepth 20000 in
set_option maxHeartbeats 8000000 in
theorem ends_walk (a d : Int) (a2 : Option Addr) (len cap : Nat) (zs : List Int) (w : World) (wa : (Lit.int .u8 a).wf = true) (_ : (Lit.int .u64 d).wf = true) (hrow : IsRow .u8 w a2 len cap zs) :
    Calls Try.prog 4 #[.int .u8 a, .int .u64 d, .slice a2 len cap] w fun e w' => e = .returned (.bool true) ∧ Below w.heap.size w w' := by
  have ha : 0 ≤ a ∧ a ≤ 255 := by simpa [Lit.wf, IntKind.min, IntKind.max, IntKind.signed, IntKind.bits] using wa
  obtain ⟨z, rfl⟩ := Int.eq_ofNat_of_zero_le ha.1
  obtain ⟨n, hn⟩ : ∃ n, 2 + z % 15 = n := ⟨_, rfl⟩
  have hnI : 2 + (z : Int) % 15 = n := by omega
  have hn2 : 2 ≤ n ∧ n ≤ 16 := by omega
  have hn2a : (2 : Int) ≤ n := by omega
  have hn2b : (n : Int) ≤ 16 := by omega
  have HN := Lib.hid hn
  clear wa hn
  go_enter Try.func4, Try.ntmps4
  go_wp2_with fail
  refine (awake_any w).mono ?_
  rintro e w1 ⟨rfl, b1⟩
  have HNEW := Lib.hid (new_at n hn2 w1 w.heap.size b1.size)
  go_wp2_with fail
  refine HNEW.out.mono ?_
  rintro e w2 ⟨p, bm, pm, k, rfl, hbr, hk, b2⟩
  have HBR0 := Lib.hid hbr
  have hb0 := b1.trans b2
  obtain ⟨N, hN⟩ : ∃ N, n - 1 = N := ⟨_, rfl⟩
  have hNI : (n : Int) - 1 = N := by omega
  have HN1 := Lib.hid hN
  clear hbr HNEW b1 b2 hN
  go_wp2_with fail
  go_loopg [10] N (fun m v wr => ∃ i : Nat, i ≤ N ∧ m = N - i ∧ v = .int .i64 i ∧ ∃ W P, Br wr w.heap.size p n (Rn n) W P bm pm (k + i) ∧ Inv n (Rn n) W P ∧ Hid (cnt P (Rn n) = i) ∧ Below w.heap.size w wr)
  case atStart => exact ⟨0, Nat.zero_le _, rfl, rfl, _, _, HBR0.out, Inv.start hn2, cnt_zero _, hb0⟩
  case round =>
    clear HBR0 hb0
    obtain ⟨i, hi, hm, rfl, W, P, hbr, hinv, HCNT, hb⟩ := hrel
    have HM := Lib.hid hm
    have HBR := Lib.hid hbr
    have HINV := Lib.hid hinv
    clear hm hbr hinv
    by_cases hlt : i < N
    · obtain ⟨hch, hlen⟩ := HINV.out.goes hn2 HCNT.out (by rw [HN1.out]; exact hlt)
      have hch2 : decide (0 ≤ W (Rn n) 0) = false := by simpa using hch
      have HCH := Lib.hid hch2
      have HLEN := Lib.hid hlen
      clear hch hch2 hlen
      go_wp2_with fail
      refine (champ_any HBR.out).mono ?_
      rintro e w3 ⟨rfl, rfl⟩
      rw [HCH.out]
      go_wp2_with fail
      refine (open_any HBR.out).mono ?_
      rintro e w4 ⟨v, rfl, hown, b4⟩
      obtain ⟨g, gc, rfl, hg, hgl, hc⟩ := owns_match hown HLEN.out
      obtain ⟨L, hL⟩ : ∃ L, (openL W P (Rn n)).length = L := ⟨_, rfl⟩
      have HL := Lib.hid hL
      have hLp : 0 < L := by rw [← hL]; exact HLEN.out
      have hLI : (0 : Int) < L := by omega
      have hL0 : ((L : Int) == 0) = false := by simp; omega
      rw [hL]
      have HC := Lib.hid hc
      have HBR4 := Lib.hid (HBR.out.keep b4)
      have hb4 := hb.trans (b4.mono HBR.out.sz)
      have hgw := Lib.hid (show g ≠ bm ∧ g ≠ pm from by
        obtain ⟨f, hf, _⟩ := HBR.out.mi
        obtain ⟨f2, hf2, _⟩ := HBR.out.mb
        have := hf.lt
        have := hf2.lt
        omega)
      clear hown hL hc b4 HLEN
      -- the index that is taken
      have hidx : ∃ t : Nat, t < L ∧ ((i < len ∧ ∃ b off zi, a2 = some ⟨b, off, none⟩ ∧ w4.cell? ⟨b, off + i, none⟩ = some (.int .u8 zi) ∧ (0 ≤ zi ∧ zi ≤ 255) ∧ zi % (L : Int) = t) ∨ (len ≤ i ∧ t = 0)) := by
        by_cases hio : i < len
        · obtain ⟨b, off, rfl, hlb, hcell⟩ := hrow.cells (by omega)
          have hz : 0 ≤ zs.getD i 0 ∧ zs.getD i 0 ≤ 255 := by
            have := hrow.wf i hio
            simpa [Lit.wf, IntKind.min, IntKind.max, IntKind.signed, IntKind.bits] using this
          obtain ⟨y, hy⟩ := Int.eq_ofNat_of_zero_le hz.1
          have hc4 := (hb4.cell (p := ⟨b, off + i, none⟩) hlb).trans (hcell i hio)
          rw [hy] at hc4 hz
          exact ⟨y % L, Nat.mod_lt _ hLp, .inl ⟨hio, b, off, y, rfl, hc4, hz, by norm_cast⟩⟩
        · exact ⟨0, hLp, .inr ⟨by omega, rfl⟩⟩
      obtain ⟨t, htL, hcase⟩ := hidx
      obtain ⟨m, hm⟩ : ∃ m, (openL W P (Rn n))[t]? = some m := ⟨_, List.getElem?_eq_getElem (by rw [HL.out]; exact htL)⟩
      obtain ⟨r, q, hr, hq, rfl, hx, hy, hp⟩ := mem_openL (List.mem_of_getElem? hm)
      obtain ⟨x, hWx⟩ : ∃ x, W r (2 * q) = x := ⟨_, rfl⟩
      obtain ⟨y, hWy⟩ : ∃ y, W r (2 * q + 1) = y := ⟨_, rfl⟩
      have hcells := HC.out t _ hm
      rw [hWx, hWy] at hcells
      obtain ⟨m0, m1, m2, m3⟩ := hcells
      have HQ := Lib.hid hq
      have htI : (t : Int) < L := by omega
      have hx' : 0 ≤ x := by omega
      have hy' : 0 ≤ y := by omega
      have hdec : ∀ c : Int, c = x ∨ c = y → decN W P r q c = 0 ∧ winN W r q c = c := by
        intro c hc
        unfold decN winN
        rw [hWx, hWy, hp]
        have h1 : (decide (0 ≤ x) && decide (0 ≤ y)) = true := by simp [hx', hy']
        have h2 : (c == -1) = false := by simp; omega
        rw [h1, h2]
        have h3 : (c != x && c != y) = false := by simp; omega
        simp [h3]
      have hsev : ∀ c : Int, c = x ∨ c = y → decN (updW W (r + 1) q c) (updP P r q) r q c = 7 := by
        intro c _
        have e1 : updW W (r + 1) q c r (2 * q) = x := by unfold updW; rw [if_neg (by omega)]; exact hWx
        have e2 : updW W (r + 1) q c r (2 * q + 1) = y := by unfold updW; rw [if_neg (by omega)]; exact hWy
        have e3 : updP P r q r q = true := by unfold updP; rw [if_pos ⟨rfl, rfl⟩]
        unfold decN
        rw [e1, e2, e3]
        have h1 : (decide (0 ≤ x) && decide (0 ≤ y)) = true := by simp [hx', hy']
        rw [h1]
        simp
      have bd : Below w4.heap.size w4 w4.drew := (Below.refl _ _).drew
      have HBRd := Lib.hid (HBR4.out.keep bd)
      have hbd := hb4.trans (bd.mono HBR4.out.sz)
      have hcd : w4.drew.cell? ⟨g, t * 4, none⟩ = some (.int .i64 r) ∧ w4.drew.cell? ⟨g, t * 4 + 1, none⟩ = some (.int .i64 q) := ⟨m0, m1⟩
      have hcell : ∀ w5 : World, w5.heap[g]? = w4.heap[g]? → w5.cell? ⟨g, t * 4, none⟩ = some (.int .i64 r) ∧ w5.cell? ⟨g, t * 4 + 1, none⟩ = some (.int .i64 q) := fun w5 he =>
        ⟨(World.cell?_of_block (a := ⟨g, t * 4, none⟩) he).trans m0, (World.cell?_of_block (a := ⟨g, t * 4 + 1, none⟩) he).trans m1⟩
      have HCELL := Lib.hid hcell
      have hstay : ∀ w5, Kept bm pm w4.drew w5 → w5.heap[g]? = w4.heap[g]? := fun w5 hk5 => hk5 g hgl hgw.out.1 hgw.out.2
      have hstay2 : ∀ w5 w6 : World, w4.heap.size ≤ w5.heap.size → w5.heap[g]? = w4.heap[g]? → Kept bm pm w5 w6 → w6.heap[g]? = w4.heap[g]? := fun w5 w6 hs he hk6 => (hk6 g (Nat.lt_of_lt_of_le hgl hs) hgw.out.1 hgw.out.2).trans he
      have HSTAY2 := Lib.hid hstay2
      have hstep : ∀ (c : Int) (w5 : World), c = x ∨ c = y → ((decN W P r q c ≠ 0 ∧ Br w5 w.heap.size p n (Rn n) W P bm pm (k + i)) ∨ (decN W P r q c = 0 ∧ Br w5 w.heap.size p n (Rn n) (updW W (r + 1) q (winN W r q c)) (updP P r q) bm pm (k + i + 1))) →
          Br w5 w.heap.size p n (Rn n) (updW W (r + 1) q c) (updP P r q) bm pm (k + (i + 1)) := by
        intro c w5 hc h5
        obtain ⟨e0, e1⟩ := hdec c hc
        rcases h5 with ⟨h5, _⟩ | ⟨_, h5⟩
        · exact absurd e0 h5
        · rw [e1] at h5; exact h5
      have HSTAY := Lib.hid hstay
      have HDEC := Lib.hid hdec
      have HSEV := Lib.hid hsev
      have HSTEP := Lib.hid hstep
      have HXY := Lib.hid (And.intro hx hy)
      have HP := Lib.hid hp
      have HXC := Lib.hid (show ∀ c : Int, c = x ∨ c = y → (c = W r (2 * q) ∨ c = W r (2 * q + 1)) from fun c hc => by rw [hWx, hWy]; exact hc)
      have HCN := Lib.hid (show cnt (updP P r q) (Rn n) = i + 1 by rw [cnt_step (Rn_ok hn2).2.1 hr hq hp, HCNT.out])
      have tok : True := trivial
      clear hcell hstay2 hstay hdec hsev hstep hx hy hp hWx hWy hm hq hcd bd hb4
      have hsix : ∀ (c : Int) (w6 : World), c = x ∨ c = y → ((decN (updW W (r + 1) q c) (updP P r q) r q c ≠ 0 ∧ Br w6 w.heap.size p n (Rn n) (updW W (r + 1) q c) (updP P r q) bm pm (k + (i + 1))) ∨ (decN (updW W (r + 1) q c) (updP P r q) r q c = 0 ∧ Br w6 w.heap.size p n (Rn n) (updW (updW W (r + 1) q c) (r + 1) q (winN (updW W (r + 1) q c) r q c)) (updP (updP P r q) r q) bm pm (k + (i + 1) + 1))) →
          Br w6 w.heap.size p n (Rn n) (updW W (r + 1) q c) (updP P r q) bm pm (k + (i + 1)) := by
        intro c w6 hc h6
        rcases h6 with ⟨_, h6⟩ | ⟨h6, _⟩
        · exact h6
        · rw [HSEV.out c hc] at h6; omega
      have HSIX := Lib.hid hsix
      clear hsix
      rcases hcase with ⟨hio, b, off, zi, rfl, hzc, hzr, hzm⟩ | ⟨hio, rfl⟩
      · have hioI : (i : Int) < len := by omega
        go_wp2_with fail
        · have hcd : w4.drew.cell? ⟨g, t * 4, none⟩ = some (.int .i64 r) ∧ w4.drew.cell? ⟨g, t * 4 + 1, none⟩ = some (.int .i64 q) := by simpa using HCELL.out w4.drew rfl
          go_region_held3 (fun w' => w'.cell? ⟨g, t * 4, none⟩ = some (.int .i64 r) ∧ w'.cell? ⟨g, t * 4 + 1, none⟩ = some (.int .i64 q)) (first | assumption | (go_keep; done))
            (first
              | (go_at_call 19; have _t := tok; refine (decide_keep HBRd.out (by omega) r q hr HQ.out y).mono ?_; rintro e w5 ⟨⟨rfl, b5, h5⟩, hk5⟩; have HG5 := Lib.hid (HSTAY.out w5 hk5); have hcell5 : w5.cell? ⟨g, t * 4, none⟩ = some (.int .i64 r) ∧ w5.cell? ⟨g, t * 4 + 1, none⟩ = some (.int .i64 q) := (by simpa using HCELL.out w5 HG5.out); have HBR5 := Lib.hid (HSTEP.out y w5 (.inr rfl) h5); have hb5 := hbd.trans b5; have HZ5 := Lib.hid (show w4.heap.size ≤ w5.heap.size from b5.size); rw [(HDEC.out y (.inr rfl)).1]; clear tok b5 h5 hk5)
              | (go_at_call 19; refine (decide_keep HBR5.out (by omega) r q hr HQ.out y).mono ?_; rintro e w6 ⟨⟨rfl, b6, h6⟩, hk6⟩; have HBR6 := Lib.hid (HSIX.out y w6 (.inr rfl) h6); rw [HSEV.out y (.inr rfl)]; have hb6 := hb5.trans b6; have hcell6 : w6.cell? ⟨g, t * 4, none⟩ = some (.int .i64 r) ∧ w6.cell? ⟨g, t * 4 + 1, none⟩ = some (.int .i64 q) := (by simpa using HCELL.out w6 (HSTAY2.out w5 w6 HZ5.out HG5.out hk6)); clear b6 h6 hk6))
          clear hcd hcell5 hcell6
          go_wp2_with fail
          go_roundg (N - (i + 1))
          case measure => rw [HM.out]; omega
          case rel => exact ⟨i + 1, by omega, rfl, by go_num, _, _, HBR6.out, HINV.out.step hr HQ.out (HXY.out.1) (HXY.out.2) HP.out (HXC.out y (.inr rfl)), HCN.out, hb6⟩
        · have hcd : w4.drew.cell? ⟨g, t * 4, none⟩ = some (.int .i64 r) ∧ w4.drew.cell? ⟨g, t * 4 + 1, none⟩ = some (.int .i64 q) := by simpa using HCELL.out w4.drew rfl
          go_region_held3 (fun w' => w'.cell? ⟨g, t * 4, none⟩ = some (.int .i64 r) ∧ w'.cell? ⟨g, t * 4 + 1, none⟩ = some (.int .i64 q)) (first | assumption | (go_keep; done))
            (first
              | (go_at_call 19; have _t := tok; refine (decide_keep HBRd.out (by omega) r q hr HQ.out x).mono ?_; rintro e w5 ⟨⟨rfl, b5, h5⟩, hk5⟩; have HG5 := Lib.hid (HSTAY.out w5 hk5); have hcell5 : w5.cell? ⟨g, t * 4, none⟩ = some (.int .i64 r) ∧ w5.cell? ⟨g, t * 4 + 1, none⟩ = some (.int .i64 q) := (by simpa using HCELL.out w5 HG5.out); have HBR5 := Lib.hid (HSTEP.out x w5 (.inl rfl) h5); have hb5 := hbd.trans b5; have HZ5 := Lib.hid (show w4.heap.size ≤ w5.heap.size from b5.size); rw [(HDEC.out x (.inl rfl)).1]; clear tok b5 h5 hk5)
              | (go_at_call 19; refine (decide_keep HBR5.out (by omega) r q hr HQ.out x).mono ?_; rintro e w6 ⟨⟨rfl, b6, h6⟩, hk6⟩; have HBR6 := Lib.hid (HSIX.out x w6 (.inl rfl) h6); rw [HSEV.out x (.inl rfl)]; have hb6 := hb5.trans b6; have hcell6 : w6.cell? ⟨g, t * 4, none⟩ = some (.int .i64 r) ∧ w6.cell? ⟨g, t * 4 + 1, none⟩ = some (.int .i64 q) := (by simpa using HCELL.out w6 (HSTAY2.out w5 w6 HZ5.out HG5.out hk6)); clear b6 h6 hk6))
          clear hcd hcell5 hcell6
          go_wp2_with fail
          go_roundg (N - (i + 1))
          case measure => rw [HM.out]; omega
          case rel => exact ⟨i + 1, by omega, rfl, by go_num, _, _, HBR6.out, HINV.out.step hr HQ.out (HXY.out.1) (HXY.out.2) HP.out (HXC.out x (.inl rfl)), HCN.out, hb6⟩
      · have hioI : ¬ (i : Int) < len := by omega
        go_wp2_with fail
        · have hcd : w4.drew.cell? ⟨g, 0, none⟩ = some (.int .i64 r) ∧ w4.drew.cell? ⟨g, 1, none⟩ = some (.int .i64 q) := by simpa using HCELL.out w4.drew rfl
          go_region_held3 (fun w' => w'.cell? ⟨g, 0, none⟩ = some (.int .i64 r) ∧ w'.cell? ⟨g, 1, none⟩ = some (.int .i64 q)) (first | assumption | (go_keep; done))
            (first
              | (go_at_call 19; have _t := tok; refine (decide_keep HBRd.out (by omega) r q hr HQ.out y).mono ?_; rintro e w5 ⟨⟨rfl, b5, h5⟩, hk5⟩; have HG5 := Lib.hid (HSTAY.out w5 hk5); have hcell5 : w5.cell? ⟨g, 0, none⟩ = some (.int .i64 r) ∧ w5.cell? ⟨g, 1, none⟩ = some (.int .i64 q) := (by simpa using HCELL.out w5 HG5.out); have HBR5 := Lib.hid (HSTEP.out y w5 (.inr rfl) h5); have hb5 := hbd.trans b5; have HZ5 := Lib.hid (show w4.heap.size ≤ w5.heap.size from b5.size); rw [(HDEC.out y (.inr rfl)).1]; clear tok b5 h5 hk5)
              | (go_at_call 19; refine (decide_keep HBR5.out (by omega) r q hr HQ.out y).mono ?_; rintro e w6 ⟨⟨rfl, b6, h6⟩, hk6⟩; have HBR6 := Lib.hid (HSIX.out y w6 (.inr rfl) h6); rw [HSEV.out y (.inr rfl)]; have hb6 := hb5.trans b6; have hcell6 : w6.cell? ⟨g, 0, none⟩ = some (.int .i64 r) ∧ w6.cell? ⟨g, 1, none⟩ = some (.int .i64 q) := (by simpa using HCELL.out w6 (HSTAY2.out w5 w6 HZ5.out HG5.out hk6)); clear b6 h6 hk6))
          clear hcd hcell5 hcell6
          go_wp2_with fail
          go_roundg (N - (i + 1))
          case measure => rw [HM.out]; omega
          case rel => exact ⟨i + 1, by omega, rfl, by go_num, _, _, HBR6.out, HINV.out.step hr HQ.out (HXY.out.1) (HXY.out.2) HP.out (HXC.out y (.inr rfl)), HCN.out, hb6⟩
        · have hcd : w4.drew.cell? ⟨g, 0, none⟩ = some (.int .i64 r) ∧ w4.drew.cell? ⟨g, 1, none⟩ = some (.int .i64 q) := by simpa using HCELL.out w4.drew rfl
          go_region_held3 (fun w' => w'.cell? ⟨g, 0, none⟩ = some (.int .i64 r) ∧ w'.cell? ⟨g, 1, none⟩ = some (.int .i64 q)) (first | assumption | (go_keep; done))
            (first
              | (go_at_call 19; have _t := tok; refine (decide_keep HBRd.out (by omega) r q hr HQ.out x).mono ?_; rintro e w5 ⟨⟨rfl, b5, h5⟩, hk5⟩; have HG5 := Lib.hid (HSTAY.out w5 hk5); have hcell5 : w5.cell? ⟨g, 0, none⟩ = some (.int .i64 r) ∧ w5.cell? ⟨g, 1, none⟩ = some (.int .i64 q) := (by simpa using HCELL.out w5 HG5.out); have HBR5 := Lib.hid (HSTEP.out x w5 (.inl rfl) h5); have hb5 := hbd.trans b5; have HZ5 := Lib.hid (show w4.heap.size ≤ w5.heap.size from b5.size); rw [(HDEC.out x (.inl rfl)).1]; clear tok b5 h5 hk5)
              | (go_at_call 19; refine (decide_keep HBR5.out (by omega) r q hr HQ.out x).mono ?_; rintro e w6 ⟨⟨rfl, b6, h6⟩, hk6⟩; have HBR6 := Lib.hid (HSIX.out x w6 (.inl rfl) h6); rw [HSEV.out x (.inl rfl)]; have hb6 := hb5.trans b6; have hcell6 : w6.cell? ⟨g, 0, none⟩ = some (.int .i64 r) ∧ w6.cell? ⟨g, 1, none⟩ = some (.int .i64 q) := (by simpa using HCELL.out w6 (HSTAY2.out w5 w6 HZ5.out HG5.out hk6)); clear b6 h6 hk6))
          clear hcd hcell5 hcell6
          go_wp2_with fail
          go_roundg (N - (i + 1))
          case measure => rw [HM.out]; omega
          case rel => exact ⟨i + 1, by omega, rfl, by go_num, _, _, HBR6.out, HINV.out.step hr HQ.out (HXY.out.1) (HXY.out.2) HP.out (HXC.out x (.inl rfl)), HCN.out, hb6⟩
    · obtain rfl : i = N := by omega
      obtain ⟨hch, hop, hout⟩ := HINV.out.ended hn2 (by rw [HCNT.out, HN1.out])
      obtain ⟨c, hc⟩ : ∃ c, W (Rn n) 0 = c := ⟨_, rfl⟩
      have hchm := champ_any HBR.out
      rw [hc] at hch hout hchm
      have hmax : max c 0 = c := by omega
      have hdc : decide (0 ≤ c) = true := by simpa using hch
      rw [hmax, hdc] at hchm
      have HCHM := Lib.hid hchm
      have HOP := Lib.hid hop
      have HOUT := Lib.hid hout
      clear hch hop hout hc hchm hmax hdc
      go_wp2_with fail
      refine HCHM.out.mono ?_
      rintro e w3 ⟨rfl, rfl⟩
      go_wp2_with fail
      refine (open_any HBR.out).mono ?_
      rintro e w4 ⟨v, rfl, hown, b4⟩
      rw [HOP.out] at hown
      have hv : v = .slice none 0 0 ∨ ∃ g cap, v = .slice (some ⟨g, 0, none⟩) 0 cap := by
        rcases hown.2 with ⟨rfl, _⟩ | ⟨g, cap, cur, rfl, _⟩
        · exact .inl rfl
        · exact .inr ⟨g, cap, rfl⟩
      have HBR4 := Lib.hid (HBR.out.keep b4)
      have hb4 := hb.trans (b4.mono HBR.out.sz)
      have hR4 := HBR.out.R4
      clear hown b4 hb
      have hvv : ∃ ao cap, v = .slice ao 0 cap := by
        rcases hv with rfl | ⟨g, cap, rfl⟩
        · exact ⟨_, _, rfl⟩
        · exact ⟨_, _, rfl⟩
      obtain ⟨ao, vcap, rfl⟩ := hvv
      clear hv
      go_wp2_with fail
      go_loopg [18] n (fun m v wx => ∃ j : Nat, j ≤ n ∧ m = n - j ∧ v = .int .i64 j ∧ Br wx w.heap.size p n (Rn n) W P bm pm (k + i) ∧ Below w.heap.size w wx)
      case atStart => exact ⟨0, by omega, by omega, rfl, HBR4.out, hb4⟩
      case round =>
        clear HBR4 hb4
        obtain ⟨j, hjn, hm, rfl, hbr, hb⟩ := hrel
        have HM2 := Lib.hid hm
        have HBX := Lib.hid hbr
        clear hm hbr
        by_cases hjl : j < n
        · have hjI : (j : Int) < n := by omega
          go_wp2_with fail
          refine (out_any HBX.out j).mono ?_
          rintro e wy ⟨v1, rfl, o1, b1⟩
          have HBY := Lib.hid (HBX.out.keep b1)
          have hby := hb.trans (b1.mono HBX.out.sz)
          have hcase := HOUT.out j v1 hjl o1
          clear o1 b1 hb HBX
          rcases hcase with ⟨hjc, rfl⟩ | ⟨hjc, r, hr, rfl⟩
          · have t1 : ((j : Int) == c) = true := by simpa using hjc
            clear hjc
            go_wp2_with fail
            go_roundg (n - (j + 1))
            case measure => rw [HM2.out]; omega
            case rel => exact ⟨j + 1, by omega, rfl, by go_num, HBY.out, hby⟩
          · have t1 : ((j : Int) == c) = false := by simpa using hjc
            clear hjc
            have hrI : (r : Int) < Rn n := by omega
            go_wp2_with fail
            refine (rounds_any HBY.out).mono ?_
            rintro e wz ⟨rfl, rfl⟩
            go_wp2_with fail
            go_roundg (n - (j + 1))
            case measure => rw [HM2.out]; omega
            case rel => exact ⟨j + 1, by omega, rfl, by go_num, HBY.out, hby⟩
        · go_wp2_with fail
          go_ret
          exact ⟨rfl, hb⟩
end Go.Proofs.Ytpdanppnpgfkeaa
