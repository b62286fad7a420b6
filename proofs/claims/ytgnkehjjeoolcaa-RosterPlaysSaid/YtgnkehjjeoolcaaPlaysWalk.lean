/- The walk of RosterPlays: for every script the call returns true and turns nothing that was there. -/
import Derived.Test.YtgnkehjjeoolcaaStepr
import Derived.Deep.RegionHeld3
namespace Go.Proofs.Ytgnkehjjeoolcaa
open Go.ChangeShapes Go.WideShapes Go.RowKit

/-- a script, opened -/
def IsOps (w : World) (a : Option Addr) (len : Nat) : Prop := ∀ k, k < len → ∃ (b off : Nat) (o : OpR), a = some ⟨b, off, none⟩ ∧ b < w.heap.size ∧ w.rangeAt b (off + k * 13) o.cells

theorem op13 {w : World} {b off k : Nat} {o : OpR} (h : w.rangeAt b (off + k * 13) o.cells) : w.cell? ⟨b, off + k * 13, none⟩ = some (.int .i64 o.kind) ∧ w.cell? ⟨b, off + k * 13 + 1, none⟩ = some (.int .i64 o.id) ∧ w.cell? ⟨b, off + k * 13 + 2, none⟩ = some (.int .i64 o.e.id) ∧ w.cell? ⟨b, off + k * 13 + 3, none⟩ = some (.int .i64 o.e.owner) ∧ w.cell? ⟨b, off + k * 13 + 4, none⟩ = some (.int .i64 o.e.kind) ∧ w.cell? ⟨b, off + k * 13 + 5, none⟩ = some (.int .i64 o.e.ax) ∧ w.cell? ⟨b, off + k * 13 + 6, none⟩ = some (.int .i64 o.e.ay) ∧ w.cell? ⟨b, off + k * 13 + 7, none⟩ = some (.int .i64 o.e.hp) ∧ w.cell? ⟨b, off + k * 13 + 8, none⟩ = some (.int .i64 o.e.doing) ∧ w.cell? ⟨b, off + k * 13 + 9, none⟩ = some (.int .i64 o.e.gx) ∧ w.cell? ⟨b, off + k * 13 + 10, none⟩ = some (.int .i64 o.e.gy) ∧ w.cell? ⟨b, off + k * 13 + 11, none⟩ = some (.int .i64 o.e.target) ∧ w.cell? ⟨b, off + k * 13 + 12, none⟩ = some (.int .i64 o.e.load) :=
  ⟨h 0 _ rfl, h 1 _ rfl, h 2 _ rfl, h 3 _ rfl, h 4 _ rfl, h 5 _ rfl, h 6 _ rfl, h 7 _ rfl, h 8 _ rfl, h 9 _ rfl, h 10 _ rfl, h 11 _ rfl, h 12 _ rfl⟩

set_option maxRecDepth 20000 in
set_option maxHeartbeats 4000000 in
theorem plays_walk (a : Option Addr) (len cap : Nat) (w : World) (hr : IsOps w a len) :
    Calls Try.prog 3 #[.slice a len cap] w fun r w' => r = .returned (.bool true) ∧ Below w.heap.size w w' := by
  by_cases hbig : 500 < len
  · go_enter Try.func3, Try.ntmps3
    go_wp2_with fail
    refine (awake_any w).mono ?_
    rintro e w1 ⟨rfl, b1⟩
    go_wp2_with fail
    refine (awake_any w1).mono ?_
    rintro e w2 ⟨rfl, b2⟩
    go_wp2_with fail
    go_ret
    exact ⟨rfl, b1.trans (b2.mono b1.size)⟩
  · have hle : len ≤ 500 := by omega
    go_enter Try.func3, Try.ntmps3
    go_wp2_with fail
    refine (awake_any w).mono ?_
    rintro e w1 ⟨rfl, b1⟩
    go_wp2_with fail
    refine (new_any w1 w.heap.size b1.size).mono ?_
    rintro r w2 ⟨rfl, ht, b2⟩
    have b12 : Below w.heap.size w w2 := b1.trans (b2.mono b1.size)
    go_wp2_with fail
    refine (rnew_any w2 w.heap.size b12.size).mono ?_
    rintro r w3 ⟨rfl, hs, b3⟩
    have b13 : Below w.heap.size w w3 := b12.trans (b3.mono b12.size)
    have hpq : w1.heap.size < w2.heap.size := ht.lt
    have x0 : Two w3 w.heap.size w1.heap.size w2.heap.size (.slice none 0 0) (.slice none 0 0) [] 0 [] (0 + 1) :=
      ⟨tab_below ht b3, hs, by omega, by simp [Value.ownBlock], by simp [Value.ownBlock], by simp [Value.ownBlock]⟩
    have HX0 := Lib.hid x0
    obtain ⟨p, hp⟩ : ∃ p, w1.heap.size = p := ⟨_, rfl⟩
    obtain ⟨q, hq⟩ : ∃ q, w2.heap.size = q := ⟨_, rfl⟩
    rw [hp, hq] at HX0
    rw [hp, hq]
    clear b1 ht b2 b12 hs b3 x0 hpq hp hq
    go_wp2_with fail
    go_loopg [5] len (fun m i wr => ∃ k : Nat, k ≤ len ∧ m = len - k ∧ i = .int .i64 k ∧ ∃ (v u : Value) (es : List Ent) (g : Int), g ≤ k ∧ Two wr w.heap.size p q v u es g es (g + 1) ∧ Live es g ∧ Below w.heap.size w wr)
    case atStart => exact ⟨0, by omega, rfl, rfl, _, _, [], 0, by omega, HX0.out, Live.nil 0 (by omega), b13⟩
    case round =>
      clear HX0 b13
      obtain ⟨k, hk, hm, rfl, v, u, es, g, hgk, hx, hli, hb⟩ := hrel
      have HM := Lib.hid hm
      have HL := Lib.hid hli
      by_cases hlt : k < len
      · obtain ⟨b, off, o, rfl, hlb, hrow⟩ := hr k hlt
        have bd : Below wr.heap.size wr wr.drew := (Below.refl _ _).drew
        have HX := Lib.hid (hx.after bd)
        have HB := Lib.hid (hb.trans (bd.mono hx.t.sz))
        have hR := Lib.hid hrow
        have hBW : Hid (b < w.heap.size) := hlb
        have hi : wr.drew.cell? ⟨b, off + k * 13, none⟩ = some (.int .i64 o.kind) ∧ wr.drew.cell? ⟨b, off + k * 13 + 1, none⟩ = some (.int .i64 o.id) ∧ wr.drew.cell? ⟨b, off + k * 13 + 2, none⟩ = some (.int .i64 o.e.id) ∧ wr.drew.cell? ⟨b, off + k * 13 + 3, none⟩ = some (.int .i64 o.e.owner) ∧ wr.drew.cell? ⟨b, off + k * 13 + 4, none⟩ = some (.int .i64 o.e.kind) ∧ wr.drew.cell? ⟨b, off + k * 13 + 5, none⟩ = some (.int .i64 o.e.ax) ∧ wr.drew.cell? ⟨b, off + k * 13 + 6, none⟩ = some (.int .i64 o.e.ay) ∧ wr.drew.cell? ⟨b, off + k * 13 + 7, none⟩ = some (.int .i64 o.e.hp) ∧ wr.drew.cell? ⟨b, off + k * 13 + 8, none⟩ = some (.int .i64 o.e.doing) ∧ wr.drew.cell? ⟨b, off + k * 13 + 9, none⟩ = some (.int .i64 o.e.gx) ∧ wr.drew.cell? ⟨b, off + k * 13 + 10, none⟩ = some (.int .i64 o.e.gy) ∧ wr.drew.cell? ⟨b, off + k * 13 + 11, none⟩ = some (.int .i64 o.e.target) ∧ wr.drew.cell? ⟨b, off + k * 13 + 12, none⟩ = some (.int .i64 o.e.load) := op13 (range_below HB.out hrow hlb)
        have hgp : Hid (0 ≤ g) := hli.pos
        have hg1 : g ≤ 1000 := by omega
        clear hm hli hx hb hrow hlb bd
        go_wp2_with fail
        obtain ⟨i0, i1, i2, i3, i4, i5, i6, i7, i8, i9, i10, i11, i12⟩ := hi
        go_region_with
          (first
            | (go_at_call 10; refine (step_any _ _ p q v u es g HX.out HL.out hg1 o).mono ?_; rintro r w1 ⟨v1, u1, es1, g1, rfl, x1, l1, hg1', b1⟩; have HX1 := Lib.hid x1; have HL1 := Lib.hid l1; have HB1 := Lib.hid (HB.out.trans b1); have q0 : w1.cell? ⟨q, 0, none⟩ = some u1 := x1.s.c0; have q1 : w1.cell? ⟨q, 1, none⟩ = some (.int .i64 (g1 + 1)) := x1.s.c1; have hlen : es1.length ≤ 100000 := (by have := l1.len; omega); have hg1p : 0 ≤ g1 := l1.pos; clear x1 b1 l1)
            | (go_at_call 11; refine (next_any _ p g1 HX1.out.t.c1 (by omega)).mono ?_; rintro r w4 ⟨rfl, rfl⟩)
            | (go_at_call 13; refine (list_any _ w.heap.size p v1 es1 g1 HX1.out.t hlen).mono ?_; rintro r w5 ⟨l5, rfl, ho5, b5⟩; have HX5 := Lib.hid (HX1.out.after b5); have HO5 := Lib.hid ho5; have HB5 := Lib.hid (HB1.out.trans (b5.mono HX1.out.t.sz)); have q5 : w5.cell? ⟨q, 0, none⟩ = some u1 := HX5.out.s.c0; clear ho5 b5)
            | (go_at_call 12; refine (same_any _ _ _ l5 u1 es1 HO5.out HX5.out.s.own hlen).mono ?_; rintro r w6 ⟨rfl, b6⟩; have HX6 := Lib.hid (HX5.out.after b6); have HB6 := Lib.hid (HB5.out.trans (b6.mono HX5.out.t.sz)); clear b6))
        all_goals
          clear i0 i1 i2 i3 i4 i5 i6 i7 i8 i9 i10 i11 i12 q0 q1 q5
          go_wp2_with fail
          go_roundg (len - (k + 1))
          case measure => rw [HM.out]; omega
          case rel => exact ⟨k + 1, by omega, rfl, by go_num, v1, u1, es1, g1, by omega, HX6.out, HL1.out, HB6.out⟩
      · go_wp2_with fail
        go_ret
        exact ⟨rfl, hb⟩
end Go.Proofs.Ytgnkehjjeoolcaa
