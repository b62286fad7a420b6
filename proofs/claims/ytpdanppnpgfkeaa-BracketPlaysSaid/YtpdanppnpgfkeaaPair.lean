/- The program's bracket and the document's, side by side in memory: what a decision asked of both leaves. -/
import Derived.Test.YtpdanppnpgfkeaaSame
namespace Go.Proofs.Ytpdanppnpgfkeaa
open Go.RowKit Go.Maps

/-- both brackets: the document's lies behind the program's -/
structure Pair (w : World) (B C p q n bm pm k : Nat) (W : Nat → Nat → Int) (P : Nat → Nat → Bool) (L : List Dd) (v : Value) : Prop where
  br : Br w B p n (Rn n) W P bm pm k
  rz : Rz w C q n v L W P
  lp : p < C
  lb : bm < C
  lm : pm < C

section
variable {w : World} {B C p q n bm pm k : Nat} {W : Nat → Nat → Int} {P : Nat → Nat → Bool} {L : List Dd} {v : Value}

theorem Pair.keep (h : Pair w B C p q n bm pm k W P L v) {w' : World} (hb : Below w.heap.size w w') : Pair w' B C p q n bm pm k W P L v :=
  ⟨h.br.keep hb, h.rz.keep hb, h.lp, h.lb, h.lm⟩

theorem Br.under {R : Nat} (h : Br w B p n R W P bm pm k) {w' : World} (hb : Below C w w') (lp : p < C) (lb : bm < C) (lm : pm < C) (hs : w.heap.size ≤ w'.heap.size) : Br w' B p n R W P bm pm k := by
  obtain ⟨f, hf, hf2⟩ := h.mi
  obtain ⟨g, hg, hg2⟩ := h.mb
  exact ⟨(hb.cell lp).trans h.c0, (hb.cell lp).trans h.c1, (hb.cell lp).trans h.c2, (hb.cell lp).trans h.c3, ⟨f, hf.block (hb.block bm lb), hf2⟩, ⟨g, hg.block (hb.block pm lm), hg2⟩,
    h.ne, h.np, h.nq, h.gp, h.gb, h.gq, Nat.le_trans h.sz hs, h.R4⟩

theorem Rb.kept (h : Rb w C q n v L) {w' : World} (hk : Kept bm pm w w') (hs : w.heap.size ≤ w'.heap.size) (lb : bm < C) (lm : pm < C) : Rb w' C q n v L := by
  have hq := h.lt
  have hg := h.ge
  have hbl : w'.heap[q]? = w.heap[q]? := hk q hq (by omega) (by omega)
  refine ⟨(World.cell?_of_block (a := ⟨q, 0, none⟩) hbl).trans h.c0, (World.cell?_of_block (a := ⟨q, 1, none⟩) hbl).trans h.c1, (World.frozen?_of_block (a := ⟨q, 1, none⟩) hbl).trans h.f1, ?_, h.ge, Nat.le_trans h.sz hs⟩
  obtain ⟨h1, h2⟩ := h.own
  refine ⟨h1, ?_⟩
  rcases h2 with h2 | ⟨g, cap, cur, hv, hgg, hh, r⟩
  · exact .inl h2
  · exact .inr ⟨g, cap, cur, hv, hgg, (hk g (Array.getElem?_eq_some_iff.1 hh).1 (by omega) (by omega)).trans hh, r⟩

/-- what the program's decision leaves, whatever is asked -/
def DecidedZ (B p n : Nat) (W : Nat → Nat → Int) (P : Nat → Nat → Bool) (bm pm k : Nat) (a b c : Int) (w : World) (e : Ending) (w' : World) : Prop :=
  e = .returned (.int .i64 (decZ W P (Rn n) a b c)) ∧ Below B w w' ∧ Kept bm pm w w' ∧ w.heap.size ≤ w'.heap.size ∧
    ((decZ W P (Rn n) a b c ≠ 0 ∧ Br w' B p n (Rn n) W P bm pm k) ∨
     (decZ W P (Rn n) a b c = 0 ∧ ∃ r q : Nat, a = r ∧ b = q ∧ r < Rn n ∧ q < 2 ^ (Rn n - r - 1) ∧ decN W P r q c = 0 ∧ Br w' B p n (Rn n) (updW W (r + 1) q (winN W r q c)) (updP P r q) bm pm (k + 1)))

theorem decide_anyK (h : Br w B p n (Rn n) W P bm pm k) (hk : k < 900) (a b c : Int) :
    Calls Try.prog 19 #[.pointer (some ⟨p, 0, none⟩), .int .i64 a, .int .i64 b, .int .i64 c] w (DecidedZ B p n W P bm pm k a b c w) := by
  by_cases h1 : a < 0 ∨ (Rn n : Int) ≤ a
  · have e : decZ W P (Rn n) a b c = 3 := by rw [decZ, if_pos h1]
    refine (decide_out h a b c h1).mono ?_
    rintro _ w' ⟨rfl, rfl⟩
    exact ⟨by rw [e], Below.refl _ _, fun _ _ _ _ => rfl, Nat.le_refl _, .inl ⟨by rw [e]; omega, h⟩⟩
  · obtain ⟨r, rfl⟩ := Int.eq_ofNat_of_zero_le (a := a) (by omega)
    by_cases h2 : b < 0 ∨ ((2 ^ (Rn n - r - 1) : Nat) : Int) ≤ b
    · have e : decZ W P (Rn n) r b c = 3 := by rw [decZ, if_neg h1, Int.toNat_natCast, if_pos h2]
      refine (decide_away h r (by omega) b c h2).mono ?_
      rintro _ w' ⟨rfl, rfl⟩
      exact ⟨by rw [e], Below.refl _ _, fun _ _ _ _ => rfl, Nat.le_refl _, .inl ⟨by rw [e]; omega, h⟩⟩
    · obtain ⟨q, rfl⟩ := Int.eq_ofNat_of_zero_le (a := b) (by omega)
      have hq : q < 2 ^ (Rn n - r - 1) := by
        have := not_or.1 h2
        exact Int.ofNat_lt.1 (Int.not_le.1 this.2)
      have e : decZ W P (Rn n) r q c = decN W P r q c := by rw [decZ, if_neg h1, Int.toNat_natCast, if_neg h2, Int.toNat_natCast]
      refine (decide_keep h hk r q (by omega) hq c).mono ?_
      rintro _ w' ⟨⟨rfl, hb, hc⟩, hkp⟩
      unfold DecidedZ
      rw [e]
      refine ⟨rfl, hb, hkp, hb.size, ?_⟩
      rcases hc with hc | ⟨hc, hbr⟩
      · exact .inl hc
      · exact .inr ⟨hc, r, q, rfl, rfl, by omega, hq, hc, hbr⟩

theorem decN_zero {r q : Nat} {c : Int} (h : decN W P r q c = 0) : 0 ≤ W r (2 * q) ∧ 0 ≤ W r (2 * q + 1) ∧ P r q = false ∧ (winN W r q c = W r (2 * q) ∨ winN W r q c = W r (2 * q + 1)) := by
  unfold decN at h
  unfold winN
  split at h
  · omega
  · rename_i h1
    split at h
    · omega
    · rename_i h2
      have hh : 0 ≤ W r (2 * q) ∧ 0 ≤ W r (2 * q + 1) := by simpa using h1
      refine ⟨hh.1, hh.2, by simpa using h2, ?_⟩
      split at h
      · rename_i h3
        rw [if_pos h3]
        omega
      · rename_i h3
        rw [if_neg h3]
        split at h
        · omega
        · rename_i h4
          simp at h4
          by_cases e : c = W r (2 * q)
          · exact .inl e
          · exact .inr (h4 e)

/-- a decision, asked of both -/
theorem Pair.step (h : Pair w B C p q n bm pm k W P L v) (hL : L.length < 100) {a b c : Int} {w7 w8 : World}
    (h7 : (decZ W P (Rn n) a b c ≠ 0 ∧ Br w7 B p n (Rn n) W P bm pm k) ∨
     (decZ W P (Rn n) a b c = 0 ∧ ∃ r q : Nat, a = r ∧ b = q ∧ r < Rn n ∧ q < 2 ^ (Rn n - r - 1) ∧ decN W P r q c = 0 ∧ Br w7 B p n (Rn n) (updW W (r + 1) q (winN W r q c)) (updP P r q) bm pm (k + 1)))
    (hb8 : Below C w7 w8)
    (h8 : (decZ W P (Rn n) a b c ≠ 0 ∧ Rb w8 C q n v L) ∨
     (decZ W P (Rn n) a b c = 0 ∧ ∃ v', Rb w8 C q n v' (L ++ [⟨a.toNat, b.toNat, winN W a.toNat b.toNat c⟩]))) :
    ∃ k' W' P' L' v', k' ≤ k + 1 ∧ L'.length ≤ L.length + 1 ∧ Pair w8 B C p q n bm pm k' W' P' L' v' := by
  rcases h7 with ⟨hz, hbr⟩ | ⟨hz, r, s, rfl, rfl, hr, hq, hd, hbr⟩
  · rcases h8 with ⟨_, hrb⟩ | ⟨hz', _⟩
    · exact ⟨k, W, P, L, v, by omega, by omega, hbr.under hb8 h.lp h.lb h.lm hb8.size, ⟨h.rz.hn, h.rz.inv, h.rz.tie, hrb, h.rz.len⟩, h.lp, h.lb, h.lm⟩
    · exact absurd hz' hz
  · rcases h8 with ⟨hz', _⟩ | ⟨_, v', hrb⟩
    · exact absurd hz hz'
    · obtain ⟨hx, hy, hp, hc⟩ := decN_zero hd
      rw [Int.toNat_natCast, Int.toNat_natCast] at hrb
      exact ⟨k + 1, _, _, _, v', Nat.le_refl _, by simp, hbr.under hb8 h.lp h.lb h.lm hb8.size, ⟨h.rz.hn, h.rz.inv.step hr hq hx hy hp hc, h.rz.tie.step hr hq hp _, hrb, by simp; omega⟩, h.lp, h.lb, h.lm⟩

/-- the two answers to 'when was a out' are one -/
theorem out_one (hn : 2 ≤ n ∧ n ≤ 16) (hi : Inv n (Rn n) W P) {a : Int} {u x : Value} (hu : OutAns W P (Rn n) a u) (hx : OutAns W P (Rn n) a x) : x = u ∧ ∃ (z : Int) (b : Bool), u = .tuple #[.int .i64 z, .bool b] := by
  obtain ⟨_, hR4, _, _⟩ := Rn_ok hn
  rcases hu with ⟨r, q, hr, hq, hh, rfl⟩ | ⟨hno, rfl⟩
  · rcases hx with ⟨r', q', hr', hq', hh', rfl⟩ | ⟨hno', _⟩
    · have := hi.once hR4 hr hq hr' hq' hh hh'
      subst this
      exact ⟨rfl, _, _, rfl⟩
    · rw [hno' r q hr hq] at hh; cases hh
  · rcases hx with ⟨r', q', hr', hq', hh', _⟩ | ⟨_, rfl⟩
    · rw [hno r' q' hr' hq'] at hh'; cases hh'
    · exact ⟨rfl, _, _, rfl⟩
end
end Go.Proofs.Ytpdanppnpgfkeaa
