/- Open: the list of all open matches. -/
import Derived.Test.YtpdanppnpgfkeaaBr
namespace Go.Proofs.Ytpdanppnpgfkeaa
open Go.RowKit Go.Maps

/-- a match: its round, its place, the two -/
structure Mt where
  r : Int
  q : Int
  x : Int
  y : Int
deriving DecidableEq
def Mt.cells (m : Mt) : List Value := [.int .i64 m.r, .int .i64 m.q, .int .i64 m.x, .int .i64 m.y]
def msCells (l : List Mt) : List Value := l.flatMap Mt.cells

theorem msCells_len (l : List Mt) : (msCells l).length = l.length * 4 := by
  induction l with
  | nil => rfl
  | cons m l ih => simp [msCells] at ih ⊢; rw [ih]; simp [Mt.cells]; omega
theorem msCells_snoc (l : List Mt) (m : Mt) : msCells (l ++ [m]) = msCells l ++ m.cells := by simp [msCells]

/-- an open match, or none -/
def openAt (W : Nat → Nat → Int) (P : Nat → Nat → Bool) (r q : Nat) : List Mt :=
  if (decide (0 ≤ W r (2 * q)) && decide (0 ≤ W r (2 * q + 1)) && !P r q) = true then [⟨r, q, W r (2 * q), W r (2 * q + 1)⟩] else []
def openRow (W : Nat → Nat → Int) (P : Nat → Nat → Bool) (r c : Nat) : List Mt := (List.range c).flatMap (openAt W P r)
def openUpto (W : Nat → Nat → Int) (P : Nat → Nat → Bool) (R m : Nat) : List Mt := (List.range m).flatMap (fun r => openRow W P r (2 ^ (R - r - 1)))
def openL (W : Nat → Nat → Int) (P : Nat → Nat → Bool) (R : Nat) : List Mt := openUpto W P R R

theorem openRow_succ (W : Nat → Nat → Int) (P : Nat → Nat → Bool) (r c : Nat) : openRow W P r (c + 1) = openRow W P r c ++ openAt W P r c := by simp [openRow, List.range_succ]
theorem openUpto_succ (W : Nat → Nat → Int) (P : Nat → Nat → Bool) (R m : Nat) : openUpto W P R (m + 1) = openUpto W P R m ++ openRow W P m (2 ^ (R - m - 1)) := by simp [openUpto, List.range_succ]
theorem openAt_len (W : Nat → Nat → Int) (P : Nat → Nat → Bool) (r c : Nat) : (openAt W P r c).length ≤ 1 := by unfold openAt; split <;> simp
theorem openRow_len (W : Nat → Nat → Int) (P : Nat → Nat → Bool) (r c : Nat) : (openRow W P r c).length ≤ c := by
  induction c with
  | zero => simp [openRow]
  | succ c ih => rw [openRow_succ, List.length_append]; have := openAt_len W P r c; omega
theorem openUpto_len (W : Nat → Nat → Int) (P : Nat → Nat → Bool) (R m : Nat) (h : R ≤ 4) : (openUpto W P R m).length ≤ 16 * m := by
  induction m with
  | zero => simp [openUpto]
  | succ m ih =>
    rw [openUpto_succ, List.length_append]
    have h1 := openRow_len W P m (2 ^ (R - m - 1))
    have h2 : 2 ^ (R - m - 1) ≤ 16 := pow4 (by omega)
    omega

theorem info50 : (Try.prog.info? 50).map (fun i => (i.zero, i.size, i.bytes)) = some (some (.agg #[.int .i64 0, .int .i64 0, .int .i64 0, .int .i64 0]), 4, 32) := by kernel_rfl

theorem World.ownsRow.below {w w' : World} {B e sz : Nat} {v : Value} {n : Nat} {xs : List Value} (ho : w.ownsRow B e sz v n xs) (hb : Below w.heap.size w w') : w'.ownsRow B e sz v n xs := by
  obtain ⟨h1, h2⟩ := ho
  refine ⟨h1, ?_⟩
  rcases h2 with h2 | ⟨g, cap, cur, hv, hg, hh, r⟩
  · exact .inl h2
  · refine .inr ⟨g, cap, cur, hv, hg, (hb.block g ?_).trans hh, r⟩
    exact (Array.getElem?_eq_some_iff.1 hh).1

theorem news_at (w : World) (cs : List Value) (T : TypeId) (N : Nat) (hN : N = w.heap.size) : ∀ j u, cs[j]? = some u → (w.alloc (.cells cs.toArray T)).cell? ((⟨N, 0, none⟩ : Addr).add j) = some u := by
  intro j u h
  subst hN
  rw [Addr.add_mid, World.cell?_alloc_at _ _ _ _ rfl, Nat.zero_add]
  simpa using h

theorem owns_block {w : World} {B e sz : Nat} {v : Value} {n : Nat} {xs : List Value} (h : w.ownsRow B e sz v n xs) : ∀ j, v.ownBlock = some j → B ≤ j := by
  rcases h.2 with ⟨rfl, h2⟩ | ⟨g, cap, cur, rfl, hg, r⟩
  · intro j hj; simp [Value.ownBlock] at hj
  · intro j hj; simp [Value.ownBlock] at hj; omega

def Opened (l : List Mt) (w : World) (e : Ending) (w' : World) : Prop :=
  ∃ v, e = .returned v ∧ w'.ownsRow w.heap.size 50 4 v l.length (msCells l) ∧ Below w.heap.size w w'

section
variable {w : World} {B p n R : Nat} {W : Nat → Nat → Int} {P : Nat → Nat → Bool} {bm pm k : Nat}

theorem Br.look {w : World} (h : Br w B p n R W P bm pm k) (r q : Nat) (hr : r < R) (hq : q < 2 ^ (R - r - 1)) :
    (Instr.lookup 56 (.map (some pm)) (.agg #[.int .i64 r, .int .i64 q]) false).run Try.prog w = .ok (.bool (P r q)) w := by
  obtain ⟨g, hg, hg2⟩ := h.mb
  have h16 : q < 16 := Nat.lt_of_lt_of_le hq (pow4 (by have := h.R4; omega))
  have := hg.look (r := r) (p := q) (ok64_of (by have := h.R4; omega)) (ok64_of (by omega))
  rw [hg2 r q hr hq] at this
  exact this

set_option maxRecDepth 20000 in
set_option maxHeartbeats 4000000 in
theorem open_any (h : Br w B p n R W P bm pm k) :
    Calls Try.prog 10 #[.pointer (some ⟨p, 0, none⟩)] w (Opened (openL W P R) w) := by
  obtain ⟨i0, hi, hz0, hz1, hz2⟩ := info_parts info50
  have hR4 := h.R4
  have HX := Lib.hid h
  have hpl := h.lt
  clear h
  go_enter Try.func10, Try.ntmps10
  go_wp2_with fail
  refine (rounds_any HX.out).mono ?_
  rintro e w' ⟨rfl, rfl⟩
  go_wp2_with fail
  go_loopg [3, 12] R (fun m vl i wr => ∃ r : Nat, r ≤ R ∧ m = R - r ∧ i = .int .i64 r ∧ wr.ownsRow w'.heap.size 50 4 vl (openUpto W P R r).length (msCells (openUpto W P R r)) ∧ Below w'.heap.size w' wr)
  case atStart => exact ⟨0, Nat.zero_le _, rfl, rfl, World.ownsRow_nil _ _ _ _, Below.refl _ _⟩
  case round =>
    obtain ⟨r, hr, hm, rfl, hvl, hb⟩ := hrel
    have HM := Lib.hid hm
    have HVL := Lib.hid hvl
    clear hm hvl
    by_cases hlt : r < R
    · have HXr := Lib.hid (HX.out.keep hb)
      go_wp2_with fail
      refine (matches_any HXr.out r hlt).mono ?_
      rintro e w1 ⟨rfl, rfl⟩
      obtain ⟨c, hc⟩ : ∃ c, 2 ^ (R - r - 1) = c := ⟨_, rfl⟩
      have HC := Lib.hid hc
      have hc16 : c ≤ 16 := by rw [← hc]; exact pow4 (by omega)
      rw [hc]
      clear hc
      go_wp2_with fail
      go_loopg [3, 18] c (fun m vl i wq => ∃ q : Nat, q ≤ c ∧ m = c - q ∧ i = .int .i64 q ∧ wq.ownsRow w'.heap.size 50 4 vl (openUpto W P R r ++ openRow W P r q).length (msCells (openUpto W P R r ++ openRow W P r q)) ∧ Below w'.heap.size w' wq)
      case atStart => exact ⟨0, Nat.zero_le _, rfl, rfl, by simpa [openRow] using HVL.out, hb⟩
      case round =>
        obtain ⟨q, hq, hm, rfl, hvl, hb2⟩ := hrel
        have HM2 := Lib.hid hm
        have HVQ := Lib.hid hvl
        clear hm hvl
        by_cases hlq : q < c
        · have HXq := Lib.hid (HX.out.keep hb2)
          have hqb : q < 2 ^ (R - r - 1) := by rw [HC.out]; exact hlq
          obtain ⟨wz, hwz⟩ : ∃ wz, wr.alloc (.cells #[.int .i64 r, .int .i64 q] 62) = wz := ⟨_, rfl⟩
          have bz : Below wr.heap.size wr wz := by rw [← hwz]; exact (Below.refl _ _).alloc (Nat.le_refl _) _
          have hsz : wr.heap.size < wz.heap.size := by rw [← hwz]; simp
          have z0 : wz.cell? ⟨wr.heap.size, 0, none⟩ = some (.int .i64 r) := by rw [← hwz]; exact World.cell?_alloc_at _ _ _ _ rfl
          have z1 : wz.cell? ⟨wr.heap.size, 1, none⟩ = some (.int .i64 q) := by rw [← hwz]; exact World.cell?_alloc_at _ _ _ _ rfl
          have HXz := Lib.hid (HXq.out.keep bz)
          have hvz : wz.ownsRow w'.heap.size 50 4 u3 (openUpto W P R r ++ openRow W P r q).length (msCells (openUpto W P R r ++ openRow W P r q)) := by rw [← hwz]; exact HVQ.out.alloc _
          have hbz := hb2.trans (bz.mono hb2.size)
          have HWZ := Lib.hid hwz
          have HQB := Lib.hid hqb
          clear hwz hqb bz
          go_wp2_with fail
          rw [HWZ.out]
          refine (real_any HXz.out r q hlt HQB.out).mono ?_
          rintro e w2 ⟨rfl, b2⟩
          have z20 : w2.cell? ⟨wr.heap.size, 0, none⟩ = some (.int .i64 r) := (b2.cell hsz).trans z0
          have z21 : w2.cell? ⟨wr.heap.size, 1, none⟩ = some (.int .i64 q) := (b2.cell hsz).trans z1
          have HX2 := Lib.hid (HXz.out.keep b2)
          have c3 := HX2.out.c3
          have hlook : ∀ m, (Instr.lookup 56 (.map (some pm)) (.agg #[.int .i64 r, .int .i64 q]) false).run Try.prog (w2.drewN m) = .ok (.bool (P r q)) (w2.drewN m) := fun m => (HX2.out.drewN m).look r q hlt HQB.out
          have HV2 := Lib.hid (World.ownsRow.below hvz b2)
          have HB2 := Lib.hid (hbz.trans (b2.mono hbz.size))
          clear z0 z1 hvz hbz b2 hsz HXz HWZ
          obtain ⟨ok, hok⟩ : ∃ ok, (decide (0 ≤ W r (2 * q)) && decide (0 ≤ W r (2 * q + 1))) = ok := ⟨_, rfl⟩
          obtain ⟨b, hbP⟩ : ∃ b, P r q = b := ⟨_, rfl⟩
          have hat : openAt W P r q = if (ok && !b) = true then [⟨r, q, W r (2 * q), W r (2 * q + 1)⟩] else [] := by rw [openAt, hok, hbP]
          have HAT := Lib.hid hat
          rw [hbP] at hlook
          rw [hok]
          clear hat hok hbP
          obtain ⟨x, hx⟩ : ∃ x, W r (2 * q) = x := ⟨_, rfl⟩
          obtain ⟨y, hy⟩ : ∃ y, W r (2 * q + 1) = y := ⟨_, rfl⟩
          rw [hx, hy] at HAT ⊢
          clear hx hy
          have hlen : (openUpto W P R r ++ openRow W P r q).length ≤ 100 := by
            rw [List.length_append]
            have h1 := openUpto_len W P R r hR4.2
            have h2 := openRow_len W P r q
            omega
          cases ok
          · go_wp2_with fail
            go_quiet (fail)
            have HVn := Lib.hid (World.ownsRow.below HV2.out (below_drewN w2 nq))
            have hbn := HB2.out.trans ((below_drewN w2 nq).mono HB2.out.size)
            have hem : openRow W P r (q + 1) = openRow W P r q := by rw [openRow_succ, HAT.out]; simp
            have HEM := Lib.hid hem
            clear hem
            go_wp2_with fail
            go_roundg (c - (q + 1))
            case measure => rw [HM2.out]; omega
            case rel => exact ⟨q + 1, by omega, rfl, by go_num, by rw [HEM.out]; exact HVn.out, hbn⟩
          · cases b
            · go_wp2_with fail
              go_quiet (fail)
              have HVn := Lib.hid (World.ownsRow.below HV2.out (below_drewN w2 nq))
              have hbn := HB2.out.trans ((below_drewN w2 nq).mono HB2.out.size)
              have hem : openRow W P r (q + 1) = openRow W P r q ++ [⟨r, q, x, y⟩] := by rw [openRow_succ, HAT.out]; simp
              have HEM := Lib.hid hem
              have hb1 : (openUpto W P R r ++ openRow W P r q).length + 1 ≤ maxLen := by unfold maxLen; omega
              have hb3 : ((openUpto W P R r ++ openRow W P r q).length + 1) * 32 ≤ 140737488355328 := by omega
              have hsz2 : w'.heap.size ≤ ((w2.drewN nq).alloc (.cells #[.int .i64 r, .int .i64 q, .int .i64 x, .int .i64 y] 50)).heap.size := Nat.le_trans hbn.size (by simp)
              clear hem
              go_wp2_with (at_builtin; refine wpList_append_own _ rfl (.tmp 41) (.tmp 47) 33 rfl w'.heap.size 50 i0 (.agg #[.int .i64 0, .int .i64 0, .int .i64 0, .int .i64 0]) 4 32 Try.underlying33 hi hz0 hz1 hz2 rfl (by decide) _ _ _ rfl (HVn.out.alloc _) ⟨w2.heap.size, 0, none⟩ 1 1 [.int .i64 r, .int .i64 q, .int .i64 x, .int .i64 y] rfl rfl (news_at (w2.drewN nq) _ 50 w2.heap.size rfl) (by simp [Value.oneCell']) hb1 hb3 hsz2 ?_)
              intro v' w4 hown4 hgr4 _
              have HO4 := Lib.hid hown4
              have HB4 := Lib.hid ((hbn.alloc hbn.size _).grown hgr4 hsz2 (fun j hj => owns_block HVn.out j hj))
              clear hown4 hgr4 hsz2 hb1 hb3 hbn
              go_wp2_with fail
              go_roundg (c - (q + 1))
              case measure => rw [HM2.out]; omega
              case rel => exact ⟨q + 1, by omega, rfl, by go_num, by rw [HEM.out, ← List.append_assoc, msCells_snoc, List.length_append, List.length_append]; exact HO4.out, HB4.out⟩
            · go_wp2_with fail
              go_quiet (fail)
              have HVn := Lib.hid (World.ownsRow.below HV2.out (below_drewN w2 nq))
              have hbn := HB2.out.trans ((below_drewN w2 nq).mono HB2.out.size)
              have hem : openRow W P r (q + 1) = openRow W P r q := by rw [openRow_succ, HAT.out]; simp
              have HEM := Lib.hid hem
              clear hem
              go_wp2_with fail
              go_roundg (c - (q + 1))
              case measure => rw [HM2.out]; omega
              case rel => exact ⟨q + 1, by omega, rfl, by go_num, by rw [HEM.out]; exact HVn.out, hbn⟩
        · obtain rfl : q = c := by omega
          go_wp2_with fail
          go_roundg (R - (r + 1))
          case measure => rw [HM.out]; omega
          case rel => exact ⟨r + 1, by omega, rfl, by go_num, by rw [openUpto_succ, HC.out]; exact HVQ.out, hb2⟩
    · obtain rfl : r = R := by omega
      go_wp2_with fail
      go_ret
      exact ⟨_, rfl, HVL.out, hb⟩
end
end Go.Proofs.Ytpdanppnpgfkeaa
