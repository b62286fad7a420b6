/- awake; Decide on whatever it is handed. -/
import Derived.Test.YtpdanppnpgfkeaaNew
namespace Go.Proofs.Ytpdanppnpgfkeaa
open Go.RowKit Go.Maps

theorem new_at (n : Nat) (hn : 2 ≤ n ∧ n ≤ 16) (w : World) (B : Nat) (hB : B ≤ w.heap.size) :
    Calls Try.prog 8 #[.int .i64 n] w fun e w' => ∃ p bm pm k, e = .returned (.tuple #[.pointer (some ⟨p, 0, none⟩), .int .i64 0]) ∧ Br w' B p n (Rn n) (W0 n (Rn n)) (fun _ _ => false) bm pm k ∧ k ≤ 100 ∧ Below B w w' :=
  (new_any n hn w).mono fun e w' ⟨p, bm, pm, k, h1, h2, h3, h4⟩ => ⟨p, bm, pm, k, h1, h2.base hB, h3, h4.mono hB⟩

/-- a list of matches, by its cells -/
theorem owns_match {w : World} {B : Nat} {v : Value} {l : List Mt} (h : w.ownsRow B 50 4 v l.length (msCells l)) (hl : 0 < l.length) :
    ∃ g cap, v = .slice (some ⟨g, 0, none⟩) l.length cap ∧ B ≤ g ∧ g < w.heap.size ∧ ∀ (i : Nat) (m : Mt), l[i]? = some m → w.cell? ⟨g, i * 4, none⟩ = some (.int .i64 m.r) ∧ w.cell? ⟨g, i * 4 + 1, none⟩ = some (.int .i64 m.q) ∧ w.cell? ⟨g, i * 4 + 2, none⟩ = some (.int .i64 m.x) ∧ w.cell? ⟨g, i * 4 + 3, none⟩ = some (.int .i64 m.y) := by
  obtain ⟨g, cap, rfl, h1, h2⟩ := owns_some h hl
  refine ⟨g, cap, rfl, h1, h2, fun i m hm => ?_⟩
  have hi : i < l.length := (List.getElem?_eq_some_iff.1 hm).1
  have hget : ∀ (l : List Mt) (i j : Nat) (m : Mt), l[i]? = some m → j < 4 → (msCells l)[i * 4 + j]? = m.cells[j]? := by
    intro l
    induction l with
    | nil => intro i j m h; simp at h
    | cons a l ih =>
      intro i j m h hj
      have hc : msCells (a :: l) = a.cells ++ msCells l := by simp [msCells]
      rw [hc]
      cases i with
      | zero =>
        simp at h
        subst h
        rw [List.getElem?_append_left (by simp [Mt.cells]; omega), Nat.zero_mul, Nat.zero_add]
      | succ i =>
        simp at h
        rw [List.getElem?_append_right (by simp [Mt.cells]; omega)]
        have e : (i + 1) * 4 + j - a.cells.length = i * 4 + j := by simp [Mt.cells]; omega
        rw [e]
        exact ih i j m h hj
  have hcell : ∀ j, j < 4 → w.cell? ⟨g, i * 4 + j, none⟩ = m.cells[j]? := fun j hj => by
    rw [h.cellAt (i * 4 + j) (by omega)]
    exact hget l i j m hm hj
  exact ⟨hcell 0 (by omega), hcell 1 (by omega), hcell 2 (by omega), hcell 3 (by omega)⟩

set_option maxRecDepth 20000 in
set_option maxHeartbeats 4000000 in
theorem awake_any (w : World) :
    Calls Try.prog 7 #[] w fun e w' => e = .returned (.bool true) ∧ Below w.heap.size w w' := by
  have hnew := new_at 3 (by omega) w w.heap.size (Nat.le_refl _)
  have HNEW := Lib.hid hnew
  clear hnew
  go_enter Try.func7, Try.ntmps7
  go_wp2_with fail
  refine HNEW.out.mono ?_
  rintro e w1 ⟨p, bm, pm, k, rfl, hbr, _, b1⟩
  have HBR := Lib.hid hbr
  clear hbr HNEW
  go_wp2_with fail
  refine (open_any HBR.out).mono ?_
  rintro e w2 ⟨v, rfl, hown, b2⟩
  have hol : openL (W0 3 (Rn 3)) (fun _ _ => false) (Rn 3) = [⟨0, 1, 1, 2⟩] := by decide
  rw [hol] at hown
  obtain ⟨g, cap, rfl, hg, hgl, hc⟩ := owns_match hown (by simp)
  obtain ⟨_, _, c2, c3⟩ := hc 0 _ rfl
  have HBR2 := Lib.hid (HBR.out.keep b2)
  have HB2 := Lib.hid (b1.trans (b2.mono b1.size))
  simp only [Nat.zero_mul, Nat.zero_add] at c2 c3
  clear hown hol hc b1 b2
  go_wp2_with fail
  refine (rounds_any HBR2.out).mono ?_
  rintro e w3 ⟨rfl, rfl⟩
  rw [show Rn 3 = 2 from rfl]
  go_wp2_with fail
  go_ret
  exact ⟨rfl, HB2.out⟩

section
variable {w : World} {B p n R : Nat} {W : Nat → Nat → Int} {P : Nat → Nat → Bool} {bm pm k : Nat}
/-- the code of a decision, whatever is asked -/
def decZ (W : Nat → Nat → Int) (P : Nat → Nat → Bool) (R : Nat) (a b c : Int) : Int :=
  if a < 0 ∨ (R : Int) ≤ a then 3 else if b < 0 ∨ ((2 ^ (R - a.toNat - 1) : Nat) : Int) ≤ b then 3 else decN W P a.toNat b.toNat c

theorem decide_any (h : Br w B p n R W P bm pm k) (hk : k < 900) (a b c : Int) :
    Calls Try.prog 19 #[.pointer (some ⟨p, 0, none⟩), .int .i64 a, .int .i64 b, .int .i64 c] w fun e w' => e = .returned (.int .i64 (decZ W P R a b c)) ∧ Below B w w' ∧
      ((decZ W P R a b c ≠ 0 ∧ Br w' B p n R W P bm pm k) ∨
       (decZ W P R a b c = 0 ∧ ∃ r q : Nat, a = r ∧ b = q ∧ r < R ∧ q < 2 ^ (R - r - 1) ∧ decN W P r q c = 0 ∧ Br w' B p n R (updW W (r + 1) q (winN W r q c)) (updP P r q) bm pm (k + 1))) := by
  by_cases h1 : a < 0 ∨ (R : Int) ≤ a
  · have e : decZ W P R a b c = 3 := by rw [decZ, if_pos h1]
    refine (decide_out h a b c h1).mono ?_
    rintro _ w' ⟨rfl, rfl⟩
    exact ⟨by rw [e], Below.refl _ _, .inl ⟨by rw [e]; omega, h⟩⟩
  · obtain ⟨r, rfl⟩ := Int.eq_ofNat_of_zero_le (a := a) (by omega)
    by_cases h2 : b < 0 ∨ ((2 ^ (R - r - 1) : Nat) : Int) ≤ b
    · have e : decZ W P R r b c = 3 := by rw [decZ, if_neg h1, Int.toNat_natCast, if_pos h2]
      refine (decide_away h r (by omega) b c h2).mono ?_
      rintro _ w' ⟨rfl, rfl⟩
      exact ⟨by rw [e], Below.refl _ _, .inl ⟨by rw [e]; omega, h⟩⟩
    · obtain ⟨q, rfl⟩ := Int.eq_ofNat_of_zero_le (a := b) (by omega)
      have hq : q < 2 ^ (R - r - 1) := by
        have := not_or.1 h2
        exact Int.ofNat_lt.1 (Int.not_le.1 this.2)
      have e : decZ W P R r q c = decN W P r q c := by rw [decZ, if_neg h1, Int.toNat_natCast, if_neg h2, Int.toNat_natCast]
      refine (decide_in h hk r q (by omega) hq c).mono ?_
      rintro _ w' ⟨rfl, hb, hc⟩
      rw [e]
      refine ⟨rfl, hb, ?_⟩
      rcases hc with hc | ⟨hc, hbr⟩
      · exact .inl hc
      · exact .inr ⟨hc, r, q, rfl, rfl, by omega, hq, hc, hbr⟩
end
end Go.Proofs.Ytpdanppnpgfkeaa
