/- The document's Out. -/
import Derived.Test.YtpdanppnpgfkeaaRopen
namespace Go.Proofs.Ytpdanppnpgfkeaa
open Go.RowKit Go.Maps

section
variable {w : World} {B p n : Nat} {v : Value} {L : List Dd} {W : Nat → Nat → Int} {P : Nat → Nat → Bool}

theorem Rz.drewN (h : Rz w B p n v L W P) (m : Nat) : Rz (w.drewN m) B p n v L W P := h.keep (below_drewN w m)

theorem Rz.at (h : Rz w B p n v L W P) {d : Dd} (hd : d ∈ L) : d.r < Rn n ∧ d.q < 2 ^ (Rn n - d.r - 1) ∧ P d.r d.q = true ∧ d.x = W (d.r + 1) d.q ∧ 0 ≤ W d.r (2 * d.q) ∧ 0 ≤ W d.r (2 * d.q + 1) := by
  obtain ⟨a, b, c, e⟩ := h.tie.mem d hd
  obtain ⟨f, g, _⟩ := h.inv.i1 d.r d.q a b c
  exact ⟨a, b, c, e, f, g⟩

/-- none of the first k entries is a's loss -/
def NoneIn (W : Nat → Nat → Int) (P : Nat → Nat → Bool) (a : Int) (L : List Dd) (k : Nat) : Prop := ∀ (j : Nat) (d : Dd), j < k → L[j]? = some d → hit W P a d.r d.q = false
theorem noneIn_succ {a : Int} {k : Nat} {d : Dd} (h : NoneIn W P a L k) (hd : L[k]? = some d) (hh : hit W P a d.r d.q = false) : NoneIn W P a L (k + 1) := fun j d' hj hd' => by
  rcases Nat.lt_or_ge j k with hl | hl
  · exact h j d' hl hd'
  · obtain rfl : j = k := by omega
    rw [hd] at hd'
    cases hd'
    exact hh
theorem Rz.none (h : Rz w B p n v L W P) {a : Int} (hn : NoneIn W P a L L.length) : ∀ r q : Nat, r < Rn n → q < 2 ^ (Rn n - r - 1) → hit W P a r q = false := fun r q hr hq => by
  cases hh : hit W P a r q with
  | false => rfl
  | true =>
    obtain ⟨_, _, h3, _, _⟩ := hit_parts hh
    obtain ⟨d, hd, h1, h2⟩ := h.tie.all r q hr hq h3
    obtain ⟨j, hj, rfl⟩ := List.mem_iff_getElem.1 hd
    have := hn j _ hj (List.getElem?_eq_getElem hj)
    rw [h1, h2, hh] at this
    exact this

set_option maxRecDepth 20000 in
set_option maxHeartbeats 4000000 in
theorem rout_any (h : Rz w B p n v L W P) (a : Int) :
    Calls Try.prog 17 #[.pointer (some ⟨p, 0, none⟩), .int .i64 a] w fun e w' => ∃ v, e = .returned v ∧ OutAns W P (Rn n) a v ∧ Below w.heap.size w w' := by
  obtain ⟨hR1, hR4, _, _⟩ := Rn_ok h.hn
  have hL := h.len
  obtain ⟨ao, cap, rfl⟩ := owns_ddform h.rb.own
  have HX := Lib.hid h
  obtain ⟨len, hlen⟩ : ∃ len, L.length = len := ⟨_, rfl⟩
  have HLEN := Lib.hid hlen
  rw [hlen] at hL
  clear h hlen
  go_enter Try.func17, Try.ntmps17
  go_wp2_with fail
  go_loopg [6] len (fun m i wr => ∃ k : Nat, k ≤ len ∧ m = len - k ∧ i = .int .i64 k ∧ Hid (NoneIn W P a L k) ∧ Below w.heap.size w wr)
  case atStart => exact ⟨0, Nat.zero_le _, rfl, rfl, Lib.hid (fun j d h => by omega), Below.refl _ _⟩
  case round =>
    obtain ⟨k, hk, hm, rfl, HNO, hb⟩ := hrel
    have HM := Lib.hid hm
    have HXr := Lib.hid (HX.out.keep hb)
    have c1 := HXr.out.rb.c1
    rw [HLEN.out] at c1
    clear hm
    by_cases hlt : k < len
    · obtain ⟨g, gc, hv, _, _, hcl⟩ := owns_dd HXr.out.rb.own (by rw [HLEN.out]; omega)
      rw [HLEN.out] at hv
      simp only [Value.slice.injEq, true_and] at hv
      obtain ⟨rfl, rfl⟩ := hv
      obtain ⟨d, hd⟩ : ∃ d, L[k]? = some d := ⟨_, List.getElem?_eq_getElem (by rw [HLEN.out]; exact hlt)⟩
      obtain ⟨d0, d1, d2⟩ := hcl k d hd
      obtain ⟨e1, e2, e3, e4, e5, e6⟩ := HXr.out.at (List.mem_of_getElem? hd)
      have hstep := fun hh => noneIn_succ HNO.out hd hh
      obtain ⟨r, q, c⟩ := d
      dsimp only at d0 d1 d2 e1 e2 e3 e4 e5 e6 hstep
      obtain ⟨wz, hwz⟩ : ∃ wz, wr.alloc (.cells #[.int .i64 r, .int .i64 q, .int .i64 c] 71) = wz := ⟨_, rfl⟩
      have bz : Below wr.heap.size wr wz := by rw [← hwz]; exact (Below.refl _ _).alloc (Nat.le_refl _) _
      have z0 : wz.cell? ⟨wr.heap.size, 0, none⟩ = some (.int .i64 r) := by rw [← hwz]; exact World.cell?_alloc_at _ _ _ _ rfl
      have z1 : wz.cell? ⟨wr.heap.size, 1, none⟩ = some (.int .i64 q) := by rw [← hwz]; exact World.cell?_alloc_at _ _ _ _ rfl
      have z2 : wz.cell? ⟨wr.heap.size, 2, none⟩ = some (.int .i64 c) := by rw [← hwz]; exact World.cell?_alloc_at _ _ _ _ rfl
      have HXz := Lib.hid (HXr.out.keep bz)
      have hbz := hb.trans (bz.mono hb.size)
      have q16 : q < 16 := Nat.lt_of_lt_of_le e2 (pow4 (by omega))
      have hLq : ∀ m, Calls Try.prog 26 #[.pointer (some ⟨p, 0, none⟩), .int .i64 r, .int .i64 (2 * (q : Int))] (wz.drewN m) fun e w' => e = .returned (.int .i64 (W r (2 * q))) ∧ w' = wz.drewN m := fun m => (HXz.out.drewN m).left r q e1 e2
      have hRq : ∀ m, Calls Try.prog 26 #[.pointer (some ⟨p, 0, none⟩), .int .i64 r, .int .i64 (2 * (q : Int) + 1)] (wz.drewN m) fun e w' => e = .returned (.int .i64 (W r (2 * q + 1))) ∧ w' = wz.drewN m := fun m => (HXz.out.drewN m).right r q e1 e2
      obtain ⟨x, hx⟩ : ∃ x, W r (2 * q) = x := ⟨_, rfl⟩
      obtain ⟨y, hy⟩ : ∃ y, W r (2 * q + 1) = y := ⟨_, rfl⟩
      obtain ⟨t1, ht1⟩ : ∃ t1, (x == a) = t1 := ⟨_, rfl⟩
      obtain ⟨t2, ht2⟩ : ∃ t2, (y == a) = t2 := ⟨_, rfl⟩
      obtain ⟨t3, ht3⟩ : ∃ t3, (c != a) = t3 := ⟨_, rfl⟩
      have hhit : hit W P a r q = ((t1 || t2) && t3) := by rw [hit, e3, hx, hy, ← e4, ht1, ht2, ht3]; rw [hx] at e5; rw [hy] at e6; simp [e5, e6]
      have HHIT := Lib.hid hhit
      rw [hx] at hLq
      rw [hy] at hRq
      have HLQ := Lib.hid hLq
      have HRQ := Lib.hid hRq
      have HST := Lib.hid hstep
      have HIN := Lib.hid (And.intro e1 e2)
      have HWZ := Lib.hid hwz
      clear hhit hLq hRq hx hy hstep e2 e3 e4 e5 e6 hcl hd hwz bz
      go_wp2_with fail
      rw [HWZ.out]
      clear d0 d1 d2
      have HBZ := Lib.hid hbz
      clear hbz
      go_quiet (first | (go_at_call 26; with_reducible refine Calls.quiet_of_same (HLQ.out _)) | (go_at_call 26; with_reducible refine Calls.quiet_of_same (HRQ.out _)))
      have hbn := HBZ.out.trans ((below_drewN wz nq).mono HBZ.out.size)
      cases t1
      · cases t2
        · have HN2 := Lib.hid (HST.out HHIT.out)
          go_wp2_with fail
          go_roundg (len - (k + 1))
          case measure => rw [HM.out]; omega
          case rel => exact ⟨k + 1, by omega, rfl, by go_num, HN2, hbn⟩
        · cases t3
          · have HN2 := Lib.hid (HST.out HHIT.out)
            go_wp2_with fail
            go_roundg (len - (k + 1))
            case measure => rw [HM.out]; omega
            case rel => exact ⟨k + 1, by omega, rfl, by go_num, HN2, hbn⟩
          · go_wp2_with fail
            refine bodyPost_ret (v := .tuple #[.int .i64 r, .bool true]) (by simp [results, Try.results17, go_sem]) rfl ?_
            exact ⟨_, rfl, .inl ⟨r, q, HIN.out.1, HIN.out.2, HHIT.out, rfl⟩, hbn⟩
      · cases t3
        · have HN2 := Lib.hid (HST.out HHIT.out)
          go_wp2_with fail
          go_roundg (len - (k + 1))
          case measure => rw [HM.out]; omega
          case rel => exact ⟨k + 1, by omega, rfl, by go_num, HN2, hbn⟩
        · go_wp2_with fail
          refine bodyPost_ret (v := .tuple #[.int .i64 r, .bool true]) (by simp [results, Try.results17, go_sem]) rfl ?_
          exact ⟨_, rfl, .inl ⟨r, q, HIN.out.1, HIN.out.2, HHIT.out, rfl⟩, hbn⟩
    · obtain rfl : k = len := by omega
      go_wp2_with fail
      refine bodyPost_ret (v := .tuple #[.int .i64 0, .bool false]) (by simp [results, Try.results17, go_sem]) rfl ?_
      exact ⟨_, rfl, .inr ⟨HX.out.none (by rw [HLEN.out]; exact HNO.out), rfl⟩, hb⟩
end
end Go.Proofs.Ytpdanppnpgfkeaa
