/- The document's Decide. -/
import Derived.Test.YtpdanppnpgfkeaaRout
import Derived.OneCell
namespace Go.Proofs.Ytpdanppnpgfkeaa
open Go.RowKit Go.Maps

theorem info71 : (Try.prog.info? 71).map (fun i => (i.zero, i.size, i.bytes)) = some (some (.agg #[.int .i64 0, .int .i64 0, .int .i64 0]), 3, 24) := by kernel_rfl

section
variable {w : World} {B p n : Nat} {v : Value} {L : List Dd} {W : Nat → Nat → Int} {P : Nat → Nat → Bool}

/-- an entry more, behind the append: the cell that is written, and the world behind the store -/
theorem Rb.push (h : Rb w B p n v L) (d : Dd) (o : Obj) {v' : Value} {w5 : World} (hown : w5.ownsRow (p + 1) 71 3 v' (L.length + 1) (ddCells L ++ d.cells)) (hgr : (w.alloc o).grownBy w5 v.ownBlock) :
    w5.cell? ⟨p, 1, none⟩ = some v ∧ w5.frozen? ⟨p, 1, none⟩ = false ∧ (∃ ao cap, v' = .slice ao (L.length + 1) cap) ∧ Rb (w5.setCell ⟨p, 1, none⟩ v') B p n v' (L ++ [d]) ∧ Below B w (w5.setCell ⟨p, 1, none⟩ v') := by
  have hlt := h.lt
  have hlt' : p < (w.alloc o).heap.size := by simp; omega
  have hne : some p ≠ v.ownBlock := fun e => by have := owns_block h.own p e.symm; omega
  have hne' : v'.ownBlock ≠ some p := fun e => by have := owns_block hown p e; omega
  have q0 : w5.cell? ⟨p, 0, none⟩ = some (.int .i64 n) := (hgr.cell_far ⟨p, 0, none⟩ hlt' hne).trans (by rw [World.cell?_alloc_past _ _ _ hlt]; exact h.c0)
  have q1 : w5.cell? ⟨p, 1, none⟩ = some v := (hgr.cell_far ⟨p, 1, none⟩ hlt' hne).trans (by rw [World.cell?_alloc_past _ _ _ hlt]; exact h.c1)
  have q2 : w5.frozen? ⟨p, 1, none⟩ = false := (hgr.frozen_far ⟨p, 1, none⟩ hlt' hne).trans (by rw [World.frozen?_alloc_past _ _ _ hlt]; exact h.f1)
  have hsz : B ≤ w5.heap.size := by have := hgr.size; have := h.sz; simp at *; omega
  have hown2 : w5.ownsRow (p + 1) 71 3 v' (L ++ [d]).length (ddCells (L ++ [d])) := by rw [ddCells_snoc, List.length_append]; exact hown
  have hform : ∃ ao cap, v' = .slice ao (L.length + 1) cap := by
    obtain ⟨ao, cap, e⟩ := owns_ddform hown2
    exact ⟨ao, cap, by rw [e, List.length_append]; rfl⟩
  refine ⟨q1, q2, hform, ⟨?_, World.cell?_setCell_same _ _ _ q1, ?_, ownsRow_setCell_other hown2 hne' _, h.ge, ?_⟩, ?_⟩
  · rw [World.cell?_setCell_other _ _ _ _ (by simp)]; exact q0
  · rw [World.frozen?_setCell]; exact q2
  · simpa [World.setCell] using hsz
  · exact (((Below.refl B w).alloc h.sz o).grown hgr (by have := h.sz; simp; omega) (fun j hj => by have := owns_block h.own j hj; have := h.ge; omega)).setCell h.ge _

theorem rdecide_out (h : Rz w B p n v L W P) (a b c : Int) (hout : a < 0 ∨ (Rn n : Int) ≤ a) :
    Calls Try.prog 20 #[.pointer (some ⟨p, 0, none⟩), .int .i64 a, .int .i64 b, .int .i64 c] w fun e w' => e = .returned (.int .i64 3) ∧ w' = w := by
  have HX := Lib.hid h
  clear h
  by_cases h0 : a < 0
  · have t0 : decide (a < 0) = true := by simpa using h0
    go_enter Try.func20, Try.ntmps20
    go_wp2_with fail
    go_ret
    exact ⟨rfl, rfl⟩
  · have t0 : decide (a < 0) = false := by simpa using h0
    have t1 : decide ((Rn n : Int) ≤ a) = true := by simp; omega
    go_enter Try.func20, Try.ntmps20
    go_wp2_with fail
    refine HX.out.rounds.mono ?_
    rintro e w' ⟨rfl, rfl⟩
    go_wp2_with fail
    go_ret
    exact ⟨rfl, rfl⟩

theorem rdecide_away (h : Rz w B p n v L W P) (r : Nat) (hr : r < Rn n) (b c : Int) (hout : b < 0 ∨ ((2 ^ (Rn n - r - 1) : Nat) : Int) ≤ b) :
    Calls Try.prog 20 #[.pointer (some ⟨p, 0, none⟩), .int .i64 r, .int .i64 b, .int .i64 c] w fun e w' => e = .returned (.int .i64 3) ∧ w' = w := by
  have HX := Lib.hid h
  obtain ⟨C, hC⟩ : ∃ C, 2 ^ (Rn n - r - 1) = C := ⟨_, rfl⟩
  rw [hC] at hout
  have HC := Lib.hid hC
  clear h hC
  by_cases h0 : b < 0
  · have t0 : decide (b < 0) = true := by simpa using h0
    go_enter Try.func20, Try.ntmps20
    go_wp2_with fail
    refine HX.out.rounds.mono ?_
    rintro e w' ⟨rfl, rfl⟩
    go_wp2_with fail
    go_ret
    exact ⟨rfl, rfl⟩
  · have t0 : decide (b < 0) = false := by simpa using h0
    have t1 : decide ((C : Int) ≤ b) = true := by simp; omega
    go_enter Try.func20, Try.ntmps20
    go_wp2_with fail
    refine HX.out.rounds.mono ?_
    rintro e w' ⟨rfl, rfl⟩
    go_wp2_with fail
    refine (HX.out.count r hr).mono ?_
    rintro e w' ⟨rfl, rfl⟩
    rw [HC.out]
    go_wp2_with fail
    go_ret
    exact ⟨rfl, rfl⟩

/-- what a decision of a match that is there leaves of the document's bracket -/
def Rdecided (B p n : Nat) (v : Value) (L : List Dd) (W : Nat → Nat → Int) (P : Nat → Nat → Bool) (r q : Nat) (c : Int) (w : World) (e : Ending) (w' : World) : Prop :=
  e = .returned (.int .i64 (decN W P r q c)) ∧ Below B w w' ∧
    ((decN W P r q c ≠ 0 ∧ Rb w' B p n v L) ∨ (decN W P r q c = 0 ∧ ∃ v', Rb w' B p n v' (L ++ [⟨r, q, winN W r q c⟩])))

set_option maxRecDepth 20000 in
set_option maxHeartbeats 4000000 in
theorem rdecide_in (h : Rz w B p n v L W P) (r q : Nat) (hr : r < Rn n) (hq : q < 2 ^ (Rn n - r - 1)) (c : Int) :
    Calls Try.prog 20 #[.pointer (some ⟨p, 0, none⟩), .int .i64 r, .int .i64 q, .int .i64 c] w (Rdecided B p n v L W P r q c w) := by
  obtain ⟨i0, hi, hz0, hz1, hz2⟩ := info_parts info71
  obtain ⟨hR1, hR4, _, _⟩ := Rn_ok h.hn
  have hL := h.len
  have HX := Lib.hid h
  have HQ := Lib.hid hq
  have c1 := h.rb.c1
  obtain ⟨C, hC⟩ : ∃ C, 2 ^ (Rn n - r - 1) = C := ⟨_, rfl⟩
  rw [hC] at hq
  have HC := Lib.hid hC
  have hc16 : C ≤ 16 := by rw [← hC]; exact pow4 (by omega)
  have tR' : (r : Int) < Rn n := by omega
  have tC' : (q : Int) < C := by exact_mod_cast (hC ▸ hq : q < C)
  have hdc := h.decided r q hr HQ.out
  obtain ⟨b, hbP⟩ : ∃ b, P r q = b := ⟨_, rfl⟩
  obtain ⟨x, hx⟩ : ∃ x, W r (2 * q) = x := ⟨_, rfl⟩
  obtain ⟨y, hy⟩ : ∃ y, W r (2 * q + 1) = y := ⟨_, rfl⟩
  rw [hbP] at hdc
  have hdec : decN W P r q c = if (decide (0 ≤ x) && decide (0 ≤ y)) = false then 3 else if b = true then 7 else if (c == -1) = true then 0 else if (c != x && c != y) = true then 2 else 0 := by
    rw [decN, hbP, hx, hy]
  have hwin : winN W r q c = if (c == -1) = true then min x y else c := by rw [winN, hx, hy]
  have hlf := h.left r q hr HQ.out
  have hrt := h.right r q hr HQ.out
  rw [hx] at hlf
  rw [hy] at hrt
  have HDEC := Lib.hid hdec
  have HWIN := Lib.hid hwin
  have HDC := Lib.hid hdc
  have HLF := Lib.hid hlf
  have HRT := Lib.hid hrt
  clear h hC hdc hbP hx hy hdec hwin hlf hrt hi
  obtain ⟨i0, hi, hz0, hz1, hz2⟩ := info_parts info71
  go_enter Try.func20, Try.ntmps20
  go_wp2_with fail
  refine HX.out.rounds.mono ?_
  rintro e w' ⟨rfl, rfl⟩
  go_wp2_with fail
  refine (HX.out.count r hr).mono ?_
  rintro e w' ⟨rfl, rfl⟩
  rw [HC.out]
  go_wp2_with fail
  refine HLF.out.mono ?_
  rintro e w' ⟨rfl, rfl⟩
  go_wp2_with fail
  refine HRT.out.mono ?_
  rintro e w' ⟨rfl, rfl⟩
  by_cases hx0 : 0 ≤ x
  · have tx : decide (x < 0) = false := by simp; omega
    by_cases hy0 : 0 ≤ y
    · have ty : decide (y < 0) = false := by simp; omega
      go_wp2_with fail
      refine HDC.out.mono ?_
      rintro e w' ⟨rfl, rfl⟩
      cases b
      · by_cases hc1 : c = -1
        · have s1 : (c == -1) = true := by simpa using hc1
          have s2 : (c != -1) = false := by simpa using hc1
          have s3 : (c != x) = true := by simp; omega
          have s4 : (c != y) = true := by simp; omega
          have e0 := Lib.hid (show decN W P r q c = 0 by rw [HDEC.out]; simp [hx0, hy0, hc1])
          have HE := Lib.hid (show winN W r q c = min x y by rw [HWIN.out]; simp [hc1])
          clear hc1
          by_cases hxy : x ≤ y
          · have e1 := Lib.hid (show winN W r q c = x by rw [HE.out]; omega)
            have hb1 : L.length + 1 ≤ maxLen := by unfold maxLen; omega
            have hb3 : (L.length + 1) * 24 ≤ 140737488355328 := by omega
            have hsz2 : p + 1 ≤ (w'.alloc (.cells #[.int .i64 r, .int .i64 q, .int .i64 x] 71)).heap.size := by have := HX.out.rb.lt; simp; omega
            go_wp2_with (at_builtin; refine wpList_append_own _ rfl (.tmp 72) (.tmp 77) 29 rfl (p + 1) 71 i0 (.agg #[.int .i64 0, .int .i64 0, .int .i64 0]) 3 24 Try.underlying29 hi hz0 hz1 hz2 rfl (by decide) _ _ _ rfl (HX.out.rb.own.alloc _) ⟨w'.heap.size, 0, none⟩ 1 1 [.int .i64 r, .int .i64 q, .int .i64 x] rfl rfl (news_at w' _ 71 w'.heap.size rfl) (by simp [Value.oneCell']) hb1 hb3 hsz2 ?_)
            intro v' w5 hown5 hgr5 _
            obtain ⟨q1, q2, ⟨ao', cap', rfl⟩, hrb5, hbl5⟩ := HX.out.rb.push ⟨r, q, x⟩ _ hown5 hgr5
            have HRB5 := Lib.hid hrb5
            have HBL5 := Lib.hid hbl5
            clear hrb5 hbl5 hown5 hgr5 hsz2 hb1 hb3
            go_wp2_with fail
            go_ret
            rw [← e1.out] at HRB5
            exact ⟨by rw [e0.out]; rfl, HBL5.out, .inr ⟨e0.out, _, HRB5.out⟩⟩
          · have e1 := Lib.hid (show winN W r q c = y by rw [HE.out]; omega)
            have hb1 : L.length + 1 ≤ maxLen := by unfold maxLen; omega
            have hb3 : (L.length + 1) * 24 ≤ 140737488355328 := by omega
            have hsz2 : p + 1 ≤ (w'.alloc (.cells #[.int .i64 r, .int .i64 q, .int .i64 y] 71)).heap.size := by have := HX.out.rb.lt; simp; omega
            go_wp2_with (at_builtin; refine wpList_append_own _ rfl (.tmp 72) (.tmp 77) 29 rfl (p + 1) 71 i0 (.agg #[.int .i64 0, .int .i64 0, .int .i64 0]) 3 24 Try.underlying29 hi hz0 hz1 hz2 rfl (by decide) _ _ _ rfl (HX.out.rb.own.alloc _) ⟨w'.heap.size, 0, none⟩ 1 1 [.int .i64 r, .int .i64 q, .int .i64 y] rfl rfl (news_at w' _ 71 w'.heap.size rfl) (by simp [Value.oneCell']) hb1 hb3 hsz2 ?_)
            intro v' w5 hown5 hgr5 _
            obtain ⟨q1, q2, ⟨ao', cap', rfl⟩, hrb5, hbl5⟩ := HX.out.rb.push ⟨r, q, y⟩ _ hown5 hgr5
            have HRB5 := Lib.hid hrb5
            have HBL5 := Lib.hid hbl5
            clear hrb5 hbl5 hown5 hgr5 hsz2 hb1 hb3
            go_wp2_with fail
            go_ret
            rw [← e1.out] at HRB5
            exact ⟨by rw [e0.out]; rfl, HBL5.out, .inr ⟨e0.out, _, HRB5.out⟩⟩
        · have s1 : (c == -1) = false := by simpa using hc1
          have s2 : (c != -1) = true := by simpa using hc1
          have e1 := Lib.hid (show winN W r q c = c by rw [HWIN.out]; simp [hc1])
          by_cases hcx : c = x
          · have s3 : (c != x) = false := by simpa using hcx
            have e0 := Lib.hid (show decN W P r q c = 0 by rw [HDEC.out]; simp [hx0, hy0, hcx])
            clear hcx hc1
            have hb1 : L.length + 1 ≤ maxLen := by unfold maxLen; omega
            have hb3 : (L.length + 1) * 24 ≤ 140737488355328 := by omega
            have hsz2 : p + 1 ≤ (w'.alloc (.cells #[.int .i64 r, .int .i64 q, .int .i64 c] 71)).heap.size := by have := HX.out.rb.lt; simp; omega
            go_wp2_with (at_builtin; refine wpList_append_own _ rfl (.tmp 72) (.tmp 77) 29 rfl (p + 1) 71 i0 (.agg #[.int .i64 0, .int .i64 0, .int .i64 0]) 3 24 Try.underlying29 hi hz0 hz1 hz2 rfl (by decide) _ _ _ rfl (HX.out.rb.own.alloc _) ⟨w'.heap.size, 0, none⟩ 1 1 [.int .i64 r, .int .i64 q, .int .i64 c] rfl rfl (news_at w' _ 71 w'.heap.size rfl) (by simp [Value.oneCell']) hb1 hb3 hsz2 ?_)
            intro v' w5 hown5 hgr5 _
            obtain ⟨q1, q2, ⟨ao', cap', rfl⟩, hrb5, hbl5⟩ := HX.out.rb.push ⟨r, q, c⟩ _ hown5 hgr5
            have HRB5 := Lib.hid hrb5
            have HBL5 := Lib.hid hbl5
            clear hrb5 hbl5 hown5 hgr5 hsz2 hb1 hb3
            go_wp2_with fail
            go_ret
            rw [← e1.out] at HRB5
            exact ⟨by rw [e0.out]; rfl, HBL5.out, .inr ⟨e0.out, _, HRB5.out⟩⟩
          · have s3 : (c != x) = true := by simpa using hcx
            by_cases hcy : c = y
            · have s4 : (c != y) = false := by simpa using hcy
              have e0 := Lib.hid (show decN W P r q c = 0 by rw [HDEC.out]; simp [hx0, hy0, hcy])
              clear hcx hcy hc1
              have hb1 : L.length + 1 ≤ maxLen := by unfold maxLen; omega
              have hb3 : (L.length + 1) * 24 ≤ 140737488355328 := by omega
              have hsz2 : p + 1 ≤ (w'.alloc (.cells #[.int .i64 r, .int .i64 q, .int .i64 c] 71)).heap.size := by have := HX.out.rb.lt; simp; omega
              go_wp2_with (at_builtin; refine wpList_append_own _ rfl (.tmp 72) (.tmp 77) 29 rfl (p + 1) 71 i0 (.agg #[.int .i64 0, .int .i64 0, .int .i64 0]) 3 24 Try.underlying29 hi hz0 hz1 hz2 rfl (by decide) _ _ _ rfl (HX.out.rb.own.alloc _) ⟨w'.heap.size, 0, none⟩ 1 1 [.int .i64 r, .int .i64 q, .int .i64 c] rfl rfl (news_at w' _ 71 w'.heap.size rfl) (by simp [Value.oneCell']) hb1 hb3 hsz2 ?_)
              intro v' w5 hown5 hgr5 _
              obtain ⟨q1, q2, ⟨ao', cap', rfl⟩, hrb5, hbl5⟩ := HX.out.rb.push ⟨r, q, c⟩ _ hown5 hgr5
              have HRB5 := Lib.hid hrb5
              have HBL5 := Lib.hid hbl5
              clear hrb5 hbl5 hown5 hgr5 hsz2 hb1 hb3
              go_wp2_with fail
              go_ret
              rw [← e1.out] at HRB5
              exact ⟨by rw [e0.out]; rfl, HBL5.out, .inr ⟨e0.out, _, HRB5.out⟩⟩
            · have s4 : (c != y) = true := by simpa using hcy
              have e0 := Lib.hid (show decN W P r q c = 2 by rw [HDEC.out]; simp [hx0, hy0, hcx, hcy, hc1])
              clear hcx hcy hc1
              go_wp2_with fail
              go_ret
              exact ⟨by rw [e0.out]; rfl, Below.refl _ _, .inl ⟨by rw [e0.out]; simp, HX.out.rb⟩⟩
      · have e0 := Lib.hid (show decN W P r q c = 7 by rw [HDEC.out]; simp [hx0, hy0])
        go_wp2_with fail
        go_ret
        exact ⟨by rw [e0.out]; rfl, Below.refl _ _, .inl ⟨by rw [e0.out]; simp, HX.out.rb⟩⟩
    · have ty : decide (y < 0) = true := by simp; omega
      have e0 := Lib.hid (show decN W P r q c = 3 by rw [HDEC.out]; simp [hx0, hy0])
      go_wp2_with fail
      go_ret
      exact ⟨by rw [e0.out]; rfl, Below.refl _ _, .inl ⟨by rw [e0.out]; simp, HX.out.rb⟩⟩
  · have tx : decide (x < 0) = true := by simp; omega
    have e0 := Lib.hid (show decN W P r q c = 3 by rw [HDEC.out]; simp [hx0])
    go_wp2_with fail
    go_ret
    exact ⟨by rw [e0.out]; rfl, Below.refl _ _, .inl ⟨by rw [e0.out]; simp, HX.out.rb⟩⟩

/-- what a decision leaves of the document's bracket, whatever is asked -/
def RdecidedZ (B p n : Nat) (v : Value) (L : List Dd) (W : Nat → Nat → Int) (P : Nat → Nat → Bool) (a b c : Int) (w : World) (e : Ending) (w' : World) : Prop :=
  e = .returned (.int .i64 (decZ W P (Rn n) a b c)) ∧ Below B w w' ∧
    ((decZ W P (Rn n) a b c ≠ 0 ∧ Rb w' B p n v L) ∨
     (decZ W P (Rn n) a b c = 0 ∧ ∃ v', Rb w' B p n v' (L ++ [⟨a.toNat, b.toNat, winN W a.toNat b.toNat c⟩])))

theorem rdecide_any (h : Rz w B p n v L W P) (a b c : Int) :
    Calls Try.prog 20 #[.pointer (some ⟨p, 0, none⟩), .int .i64 a, .int .i64 b, .int .i64 c] w (RdecidedZ B p n v L W P a b c w) := by
  by_cases h1 : a < 0 ∨ (Rn n : Int) ≤ a
  · have e : decZ W P (Rn n) a b c = 3 := by rw [decZ, if_pos h1]
    refine (rdecide_out h a b c h1).mono ?_
    rintro _ w' ⟨rfl, rfl⟩
    exact ⟨by rw [e], Below.refl _ _, .inl ⟨by rw [e]; omega, h.rb⟩⟩
  · obtain ⟨r, rfl⟩ := Int.eq_ofNat_of_zero_le (a := a) (by omega)
    by_cases h2 : b < 0 ∨ ((2 ^ (Rn n - r - 1) : Nat) : Int) ≤ b
    · have e : decZ W P (Rn n) r b c = 3 := by rw [decZ, if_neg h1, Int.toNat_natCast, if_pos h2]
      refine (rdecide_away h r (by omega) b c h2).mono ?_
      rintro _ w' ⟨rfl, rfl⟩
      exact ⟨by rw [e], Below.refl _ _, .inl ⟨by rw [e]; omega, h.rb⟩⟩
    · obtain ⟨q, rfl⟩ := Int.eq_ofNat_of_zero_le (a := b) (by omega)
      have hq : q < 2 ^ (Rn n - r - 1) := by
        have := not_or.1 h2
        exact Int.ofNat_lt.1 (Int.not_le.1 this.2)
      have e : decZ W P (Rn n) r q c = decN W P r q c := by rw [decZ, if_neg h1, Int.toNat_natCast, if_neg h2, Int.toNat_natCast]
      refine (rdecide_in h r q (by omega) hq c).mono ?_
      rintro _ w' ⟨rfl, hb, hc⟩
      unfold RdecidedZ
      rw [e, Int.toNat_natCast, Int.toNat_natCast]
      exact ⟨rfl, hb, hc⟩
end
end Go.Proofs.Ytpdanppnpgfkeaa
