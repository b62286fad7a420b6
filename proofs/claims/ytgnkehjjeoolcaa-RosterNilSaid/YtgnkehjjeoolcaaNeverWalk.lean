/- The walk of RosterNever: for every list of bytes the call returns true and turns nothing that was there. -/
import Derived.Test.YtgnkehjjeoolcaaFullWalk
namespace Go.Proofs.Ytgnkehjjeoolcaa
open Go.RowKit

/-- a slice of integers, with its cells -/
def IsRow (k : IntKind) (w : World) (a : Option Addr) (len cap : Nat) (zs : List Int) : Prop :=
  (a = none ∧ len = 0 ∧ cap = 0 ∧ zs = []) ∨
  ∃ x, a = some x ∧ len ≤ cap ∧ cap ≤ maxLen ∧ zs.length = cap ∧ (∀ i, i < zs.length → w.cell? (x.add i) = some (.int k (zs.getD i 0))) ∧ ∀ n ∈ zs, (Lit.int k n).wf = true

theorem IsRow.cells {k : IntKind} {w : World} {a : Option Addr} {len cap : Nat} {zs : List Int} (h : IsRow k w a len cap zs) (hl : 0 < len) :
    ∃ b off, a = some ⟨b, off, none⟩ ∧ b < w.heap.size ∧ (∀ i, i < len → w.cell? ⟨b, off + i, none⟩ = some (.int k (zs.getD i 0))) := by
  rcases h with ⟨rfl, rfl, rfl, rfl⟩ | ⟨x, rfl, h1, h2, h3, hc, h4⟩
  · omega
  · obtain ⟨b, off, spot⟩ := x
    have hc0 := hc 0 (by omega)
    have hspot : spot = none := by simpa [Addr.add] using World.cell?_spot hc0
    subst hspot
    refine ⟨b, off, rfl, ?_, fun i hi => ?_⟩
    case refine_2 =>
      have := hc i (by omega)
      rw [Addr.add_mid] at this
      exact this
    · rw [Addr.add_mid] at hc0
      exact World.block_lt_of_cell? w _ hc0

theorem IsRow.wf {k : IntKind} {w : World} {a : Option Addr} {len cap : Nat} {zs : List Int} (h : IsRow k w a len cap zs) (i : Nat) (hi : i < len) : (Lit.int k (zs.getD i 0)).wf = true := by
  rcases h with ⟨rfl, rfl, rfl, rfl⟩ | ⟨x, rfl, h1, h2, h3, hc, h4⟩
  · omega
  · apply h4
    have : i < zs.length := by omega
    simp [List.getD_eq_getElem?_getD, List.getElem?_eq_getElem this]

theorem IsRow.len_le {k : IntKind} {w : World} {a : Option Addr} {len cap : Nat} {zs : List Int} (h : IsRow k w a len cap zs) : len ≤ maxLen := by
  rcases h with ⟨rfl, rfl, rfl, rfl⟩ | ⟨x, rfl, h1, h2, h3, hc, h4⟩
  · exact Nat.zero_le _
  · omega

theorem owns_some' {w : World} {B : Nat} {v : Value} {es : List Ent} (h : w.ownsRow B 32 11 v es.length (cellsOf es)) (hn : 0 < es.length) :
    ∃ g cap, v = .slice (some ⟨g, 0, none⟩) es.length cap ∧ B ≤ g ∧ g < w.heap.size ∧ ∀ k e, es[k]? = some e → w.rangeAt g (k * 11) e.cells := by
  obtain ⟨ao, cap, rfl, _, _⟩ := owns_form h
  obtain ⟨g, rfl, hg⟩ := owns_some h hn
  refine ⟨g, cap, rfl, hg, (h.lt g rfl).2, fun k e hk => owns_range h hk⟩

theorem IsRow.below {k : IntKind} {w w' : World} {a : Option Addr} {len cap : Nat} {zs : List Int} (h : IsRow k w a len cap zs) (hb : Below w.heap.size w w') : IsRow k w' a len cap zs := by
  rcases h with h | ⟨x, rfl, h1, h2, h3, hc, h4⟩
  · exact .inl h
  · exact .inr ⟨x, rfl, h1, h2, h3, fun i hi => (hb.cell (World.block_lt_of_cell? w _ (hc i hi))).trans (hc i hi), h4⟩

/-- one insertion, full or not -/
theorem insert_both (w : World) (B p : Nat) (v : Value) (es : List Ent) (given : Int) (ht : Tab w B p v es given) (hl : Live es given) (hg : given + 1 < 2147483647) (e : Ent) :
    Calls Try.prog 14 #[.pointer (some ⟨p, 0, none⟩), .agg e.cells.toArray] w fun r w' => ∃ v' es' given', Tab w' B p v' es' given' ∧ Live es' given' ∧ 1 ≤ es'.length ∧ Touch w w' (fun k => k = p ∨ v.ownBlock = some k) ∧
      ((given' = given + 1 ∧ r = .returned (.tuple #[.int .i64 (given + 1), .int .i64 0])) ∨ (given' = given ∧ es'.length = 40 ∧ r = .returned (.tuple #[.int .i64 0, .int .i64 6]))) := by
  have hp := hl.pos
  by_cases h : es.length < 40
  · refine (insert_ok w B p v es given ht e h ⟨hp, hg⟩).mono ?_
    rintro r w' ⟨v', rfl, ht', hT, _⟩
    exact ⟨v', _, _, ht', hl.snoc e h, by simp, hT, .inl ⟨rfl, rfl⟩⟩
  · have h4 : es.length = 40 := by have := hl.len; omega
    refine (insert_full w B p v es given ht e (by omega) (.inl (by omega))).mono ?_
    rintro r w' ⟨rfl, hb⟩
    exact ⟨v, es, given, tab_below ht hb, hl, by omega, Touch.of_below hb, .inr ⟨rfl, h4, rfl⟩⟩

set_option maxHeartbeats 2000000 in
theorem never_walk (a0 : Option Addr) (len cap : Nat) (zs : List Int) (w : World) (hr : IsRow .u8 w a0 len cap zs) :
    Calls Try.prog 5 #[.slice a0 len cap] w fun e w' => e = .returned (.bool true) ∧ Below w.heap.size w w' := by
  by_cases hbig : 500 < len
  · go_enter Try.func5, Try.ntmps5
    go_wp2_with fail
    refine (awake_any w).mono ?_
    rintro e w1 ⟨rfl, b1⟩
    go_wp2_with fail
    refine (awake_any w1).mono ?_
    rintro e w2 ⟨rfl, b2⟩
    go_wp2_with fail
    go_ret
    exact ⟨rfl, b1.trans (b2.mono b1.size)⟩
  · have hle : len ≤ 500 := by omega
    go_enter Try.func5, Try.ntmps5
    go_wp2_with fail
    refine (awake_any w).mono ?_
    rintro e w1 ⟨rfl, b1⟩
    go_wp2_with fail
    refine (new_any w1 w.heap.size b1.size).mono ?_
    rintro r w2 ⟨rfl, ht, b2⟩
    have b3 : Below w.heap.size w w2 := b1.trans (b2.mono b1.size)
    have hB : Hid (w.heap.size ≤ w1.heap.size) := b1.size
    clear b1 b2
    go_wp2_with fail
    go_loopg [4, 5] len (fun m l i wr => ∃ k : Nat, k ≤ len ∧ m = len - k ∧ i = .int .i64 k ∧ ∃ (v : Value) (es : List Ent) (g : Int), g ≤ k ∧ l = .int .i64 g ∧ Tab wr w.heap.size w1.heap.size v es g ∧ Live es g ∧ Below w.heap.size w wr)
    case atStart => exact ⟨0, by omega, rfl, rfl, _, [], 0, by omega, rfl, ht, Live.nil 0 (by omega), b3⟩
    case round =>
      clear ht b3
      obtain ⟨k, hk, hm, rfl, v, es, g, hgk, rfl, ht, hli, hb⟩ := hrel
      have HM := Lib.hid hm
      have HT := Lib.hid ht
      have HLI := Lib.hid hli
      clear hm ht hli
      by_cases hlt : k < len
      · obtain ⟨b, off, rfl, hlb, hcell⟩ := hr.cells (by omega)
        have CE := Lib.hid (hcell k hlt)
        have HZ : 0 ≤ zs.getD k 0 ∧ zs.getD k 0 ≤ 255 := by
          have := hr.wf k hlt
          simpa [Lit.wf, IntKind.min, IntKind.max, IntKind.signed, IntKind.bits] using this
        obtain ⟨z, hz⟩ := Int.eq_ofNat_of_zero_le HZ.1
        rw [hz] at CE HZ
        have HBW : Hid (b < w.heap.size) := hlb
        clear hcell hlb hz
        go_wp2_with fail
        change Calls Try.prog 14 #[_, .agg (Ent.cells ⟨0, (k : Int) % 3, 0, 0, 0, 0, 0, 0, 0, 0, 0⟩).toArray] _ _
        refine (insert_both wr w.heap.size w1.heap.size v es g HT.out HLI.out (by omega) ⟨0, (k : Int) % 3, 0, 0, 0, 0, 0, 0, 0, 0, 0⟩).mono ?_
        rintro r w3 ⟨v3, es3, g3, ht3, hl3, hne, hT3, hcase⟩
        have hb3 : Below w.heap.size w w3 := hb.trans (hT3.below hb.size (fun j hj => by
          rcases hj with rfl | hj
          · exact hB.out
          · exact (HT.out.own.lt j hj).1))
        have CE3 := Lib.hid ((hb3.cell (p := ⟨b, off + k, none⟩) HBW.out).trans CE.out)
        have HT3 := Lib.hid ht3
        have HL3 := Lib.hid hl3
        clear ht3 hl3 hT3 hb
        have hgp : 0 ≤ g := HLI.out.pos
        by_cases hz3 : z % 3 = 0
        case' pos => have hz : decide (0 < (z : Int) % 3) = false := by simp; omega
        case' neg => have hz : decide (0 < (z : Int) % 3) = true := by simp; omega
        all_goals clear hz3
        all_goals rcases hcase with ⟨h1, rfl⟩ | ⟨h1, h40, rfl⟩
        case' pos.inl =>
          have hgt : decide ((g : Int) + 1 ≤ g) = false := by simp; omega
          have ce3 := CE3.out
          have hg3 : g3 ≤ k + 1 := by omega
          rw [show g + 1 = g3 by omega] at hgt ⊢
          clear h1
          go_wp2_with fail
          go_roundg (len - (k + 1))
          case measure => rw [HM.out]; omega
          case rel => exact ⟨k + 1, by omega, rfl, by go_num, v3, es3, g3, by omega, rfl, HT3.out, HL3.out, hb3⟩
        case' neg.inl =>
          have hgt : decide ((g : Int) + 1 ≤ g) = false := by simp; omega
          have ce3 := CE3.out
          have hg3 : g3 ≤ k + 1 := by omega
          rw [show g + 1 = g3 by omega] at hgt ⊢
          clear h1
          go_wp2_with fail
          have HTX := HT3
          have CEX := CE3
          have HBX := Lib.hid hb3
          clear hb3 HT3 CE3 ce3
          refine (list_any w3 w.heap.size w1.heap.size v3 es3 g3 HTX.out (by have := HL3.out.len; omega)).mono ?_
          rintro r w5 ⟨l, rfl, hown, hb5⟩
          obtain ⟨gl, cl, rfl, hgl, hgw, hrow⟩ := owns_some' hown (by omega)
          have hlen := HL3.out.len
          obtain ⟨n, hn⟩ : ∃ n, es3.length = n := ⟨_, rfl⟩
          rw [hn] at hne hlen ⊢
          have hnz : ((n : Int) == 0) = false := by simp; omega
          have hx : (z : Int) % n = ((z % n : Nat) : Int) := by norm_cast
          have hlt2 : z % n < n := Nat.mod_lt _ (by omega)
          obtain ⟨q, hq⟩ : ∃ q, z % n = q := ⟨_, rfl⟩
          rw [hq] at hx hlt2
          obtain ⟨f, hf⟩ : ∃ f, es3[q]? = some f := ⟨_, List.getElem?_eq_getElem (by omega)⟩
          have hrow0 : w5.cell? ⟨gl, q * 11 + 0, none⟩ = some (.int .i64 f.id) := hrow q f hf 0 _ rfl
          rw [Nat.add_zero] at hrow0
          obtain ⟨F1, F2⟩ := HL3.out.found hf
          have CE5 := Lib.hid ((hb5.cell (p := ⟨b, off + k, none⟩) (Nat.lt_of_lt_of_le HBW.out HBX.out.size)).trans CEX.out)
          have HT5 := Lib.hid (tab_below HTX.out hb5)
          have hb5' : Below w.heap.size w w5 := HBX.out.trans (hb5.mono HBX.out.size)
          have HN := Lib.hid hn
          have HF1 := Lib.hid F1
          have HF2 := Lib.hid F2
          have HB5 := Lib.hid hb5'
          clear hown hrow hgl hgw hb5 hb5' F1 F2 hf hn hq HTX CEX HBX
          have ce5 := CE5.out
          go_wp2_with fail
          refine (remove_any w5 w.heap.size w1.heap.size v3 es3 g3 HT5.out HL3.out.sorted (by rw [HN.out]; omega) f.id).mono ?_
          rintro r w6 ⟨v6, rfl, ht6, hT6, _⟩
          have HB6 := Lib.hid (HB5.out.trans (hT6.below HB5.out.size (fun j hj => by
            rcases hj with rfl | hj
            · exact hB.out
            · exact (HT5.out.own.lt j hj).1)))
          rw [HF1.out]
          rw [HF2.out] at ht6
          have HT6 := Lib.hid ht6
          have HL6 := Lib.hid (HL3.out.erase q)
          clear ht6 hT6
          go_wp2_with fail
          go_roundg (len - (k + 1))
          case measure => rw [HM.out]; omega
          case rel => exact ⟨k + 1, by omega, rfl, by go_num, v6, _, g3, by omega, rfl, HT6.out, HL6.out, HB6.out⟩
        case pos.inr =>
          obtain rfl : g = g3 := by omega
          clear h1
          go_wp2_with fail
          refine (list_any w3 w.heap.size w1.heap.size v3 es3 _ HT3.out (by omega)).mono ?_
          rintro r w4 ⟨l, rfl, hown, hb4⟩
          obtain ⟨gl, cl, rfl, hgl, hgw, hrow⟩ := owns_some' hown (by omega)
          have CE4 := Lib.hid ((hb4.cell (p := ⟨b, off + k, none⟩) (Nat.lt_of_lt_of_le HBW.out hb3.size)).trans CE3.out)
          have HT4 := Lib.hid (tab_below HT3.out hb4)
          have hb4' : Below w.heap.size w w4 := hb3.trans (hb4.mono hb3.size)
          have hg3 : g ≤ k + 1 := by omega
          clear hown hrow hgl hgw hb4 hb3 CE3 HT3
          have ce3 := CE4.out
          go_wp2_with fail
          clear h40
          go_roundg (len - (k + 1))
          case measure => rw [HM.out]; omega
          case rel => exact ⟨k + 1, by omega, rfl, by go_num, v3, es3, g, by omega, rfl, HT4.out, HL3.out, hb4'⟩
        case neg.inr =>
          obtain rfl : g = g3 := by omega
          clear h1
          go_wp2_with fail
          refine (list_any w3 w.heap.size w1.heap.size v3 es3 _ HT3.out (by omega)).mono ?_
          rintro r w4 ⟨l, rfl, hown, hb4⟩
          obtain ⟨gl, cl, rfl, hgl, hgw, hrow⟩ := owns_some' hown (by omega)
          have CE4 := Lib.hid ((hb4.cell (p := ⟨b, off + k, none⟩) (Nat.lt_of_lt_of_le HBW.out hb3.size)).trans CE3.out)
          have HT4 := Lib.hid (tab_below HT3.out hb4)
          have hb4' : Below w.heap.size w w4 := hb3.trans (hb4.mono hb3.size)
          have hg3 : g ≤ k + 1 := by omega
          clear hown hrow hgl hgw hb4 hb3 CE3 HT3
          have ce3 := CE4.out
          go_wp2_with fail
          clear h40
          have HTX := HT4
          have CEX := CE4
          have HBX := Lib.hid hb4'
          clear hb4' HT4 CE4 ce3
          refine (list_any w4 w.heap.size w1.heap.size v3 es3 g HTX.out (by have := HL3.out.len; omega)).mono ?_
          rintro r w5 ⟨l, rfl, hown, hb5⟩
          obtain ⟨gl, cl, rfl, hgl, hgw, hrow⟩ := owns_some' hown (by omega)
          have hlen := HL3.out.len
          obtain ⟨n, hn⟩ : ∃ n, es3.length = n := ⟨_, rfl⟩
          rw [hn] at hne hlen ⊢
          have hnz : ((n : Int) == 0) = false := by simp; omega
          have hx : (z : Int) % n = ((z % n : Nat) : Int) := by norm_cast
          have hlt2 : z % n < n := Nat.mod_lt _ (by omega)
          obtain ⟨q, hq⟩ : ∃ q, z % n = q := ⟨_, rfl⟩
          rw [hq] at hx hlt2
          obtain ⟨f, hf⟩ : ∃ f, es3[q]? = some f := ⟨_, List.getElem?_eq_getElem (by omega)⟩
          have hrow0 : w5.cell? ⟨gl, q * 11 + 0, none⟩ = some (.int .i64 f.id) := hrow q f hf 0 _ rfl
          rw [Nat.add_zero] at hrow0
          obtain ⟨F1, F2⟩ := HL3.out.found hf
          have CE5 := Lib.hid ((hb5.cell (p := ⟨b, off + k, none⟩) (Nat.lt_of_lt_of_le HBW.out HBX.out.size)).trans CEX.out)
          have HT5 := Lib.hid (tab_below HTX.out hb5)
          have hb5' : Below w.heap.size w w5 := HBX.out.trans (hb5.mono HBX.out.size)
          have HN := Lib.hid hn
          have HF1 := Lib.hid F1
          have HF2 := Lib.hid F2
          have HB5 := Lib.hid hb5'
          clear hown hrow hgl hgw hb5 hb5' F1 F2 hf hn hq HTX CEX HBX
          have ce5 := CE5.out
          go_wp2_with fail
          refine (remove_any w5 w.heap.size w1.heap.size v3 es3 g HT5.out HL3.out.sorted (by rw [HN.out]; omega) f.id).mono ?_
          rintro r w6 ⟨v6, rfl, ht6, hT6, _⟩
          have HB6 := Lib.hid (HB5.out.trans (hT6.below HB5.out.size (fun j hj => by
            rcases hj with rfl | hj
            · exact hB.out
            · exact (HT5.out.own.lt j hj).1)))
          rw [HF1.out]
          rw [HF2.out] at ht6
          have HT6 := Lib.hid ht6
          have HL6 := Lib.hid (HL3.out.erase q)
          clear ht6 hT6
          go_wp2_with fail
          go_roundg (len - (k + 1))
          case measure => rw [HM.out]; omega
          case rel => exact ⟨k + 1, by omega, rfl, by go_num, v6, _, g, by omega, rfl, HT6.out, HL6.out, HB6.out⟩
      · obtain rfl : len = k := by omega
        go_wp2_with fail
        have hgp : 0 ≤ g := HLI.out.pos
        refine (next_any wr w1.heap.size g HT.out.c1 (by omega)).mono ?_
        rintro r w4 ⟨rfl, rfl⟩
        go_wp2_with fail
        go_ret
        exact ⟨rfl, hb⟩
end Go.Proofs.Ytgnkehjjeoolcaa
