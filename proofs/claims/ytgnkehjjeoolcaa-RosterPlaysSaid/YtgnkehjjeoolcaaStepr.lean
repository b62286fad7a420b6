/- One call of the script, on both tables, where the two calls stand in one statement. -/
import Derived.Test.YtgnkehjjeoolcaaStep
import Derived.Deep.RegionHeld3
namespace Go.Proofs.Ytgnkehjjeoolcaa
open Go.RowKit

set_option maxRecDepth 20000 in
set_option maxHeartbeats 4000000 in
theorem step4 (w : World) (B p q : Nat) (v u : Value) (es : List Ent) (g : Int) (x : Two w B p q v u es g es (g + 1)) (hl : Live es g) (o : OpR) (hk : o.kind = 4) :
    Calls Try.prog 10 #[.pointer (some ⟨p, 0, none⟩), .pointer (some ⟨q, 0, none⟩), .agg o.cells.toArray] w (Stepped B p q g w) := by
  obtain ⟨w0, hw0⟩ : ∃ w0, w.alloc (.cells o.cells.toArray 34) = w0 := ⟨_, rfl⟩
  obtain ⟨x0, k0, b0⟩ := x.boxed hw0
  have hc := k0.rb 0 (.int .i64 4) (by rw [← hk]; rfl)
  have hi : w0.drew.cell? ⟨w.heap.size, 1, none⟩ = some (.int .i64 o.id) := k0.rb 1 (.int .i64 o.id) rfl
  rw [Nat.add_zero, ← hw0] at hc
  have bd : Below w0.heap.size w0 w0.drew := (Below.refl _ _).drew
  have HK0 := Lib.hid (k0.after bd)
  have HX := Lib.hid (x0.after bd)
  have HB := Lib.hid (b0.trans (bd.mono x0.t.sz))
  have HW0 := Lib.hid hw0
  have HL := Lib.hid hl
  clear x k0 x0 b0 hw0 hk hl bd
  go_enter Try.func10, Try.ntmps10
  go_wp2_with fail
  rw [HW0.out]
  clear hc
  go_region_held3 (fun w' => w'.cell? ⟨w.heap.size, 1, none⟩ = some (.int .i64 o.id)) (first | assumption | (go_keep; done))
    (first
      | (go_at_call_of 18 (Value.pointer (some ⟨p, 0, none⟩)); refine (rem_p HX.out HL.out o.id).mono ?_; rintro r w1 ⟨v1, rfl, x1, b1, k1⟩; have HK1 := Lib.hid (k1 _ _ HK0.out); have HX1 := Lib.hid x1; have HB1 := Lib.hid (HB.out.trans b1); have hi1 : w1.cell? ⟨w.heap.size, 1, none⟩ = some (.int .i64 o.id) := HK1.out.rb 1 _ rfl; clear x1 b1 k1)
      | (go_at_call 24; refine (rem_q HX1.out HL.out o.id).mono ?_; rintro r w2 ⟨u2, rfl, x2, b2, k2⟩; have hi2 : w2.cell? ⟨w.heap.size, 1, none⟩ = some (.int .i64 o.id) := (k2 _ _ HK1.out).rb 1 _ rfl; have HX2 := Lib.hid x2; have HB2 := Lib.hid (HB1.out.trans b2); clear x2 b2 k2))
  clear hi hi1 hi2
  go_wp2_with fail
  go_ret
  exact ⟨v1, u2, _, _, rfl, HX2.out, HL.out.rem o.id, by omega, HB2.out⟩

theorem ent11 {w : World} {b : Nat} {e : Ent} (h : w.rangeAt b 2 e.cells) : w.cell? ⟨b, 2, none⟩ = some (.int .i64 e.id) ∧ w.cell? ⟨b, 3, none⟩ = some (.int .i64 e.owner) ∧ w.cell? ⟨b, 4, none⟩ = some (.int .i64 e.kind) ∧ w.cell? ⟨b, 5, none⟩ = some (.int .i64 e.ax) ∧ w.cell? ⟨b, 6, none⟩ = some (.int .i64 e.ay) ∧ w.cell? ⟨b, 7, none⟩ = some (.int .i64 e.hp) ∧ w.cell? ⟨b, 8, none⟩ = some (.int .i64 e.doing) ∧ w.cell? ⟨b, 9, none⟩ = some (.int .i64 e.gx) ∧ w.cell? ⟨b, 10, none⟩ = some (.int .i64 e.gy) ∧ w.cell? ⟨b, 11, none⟩ = some (.int .i64 e.target) ∧ w.cell? ⟨b, 12, none⟩ = some (.int .i64 e.load) :=
  ⟨h 0 _ rfl, h 1 _ rfl, h 2 _ rfl, h 3 _ rfl, h 4 _ rfl, h 5 _ rfl, h 6 _ rfl, h 7 _ rfl, h 8 _ rfl, h 9 _ rfl, h 10 _ rfl⟩

set_option maxRecDepth 20000 in
set_option maxHeartbeats 4000000 in
theorem step3 (w : World) (B p q : Nat) (v u : Value) (es : List Ent) (g : Int) (x : Two w B p q v u es g es (g + 1)) (hl : Live es g) (o : OpR) (hk : o.kind = 3) :
    Calls Try.prog 10 #[.pointer (some ⟨p, 0, none⟩), .pointer (some ⟨q, 0, none⟩), .agg o.cells.toArray] w (Stepped B p q g w) := by
  obtain ⟨w0, hw0⟩ : ∃ w0, w.alloc (.cells o.cells.toArray 34) = w0 := ⟨_, rfl⟩
  obtain ⟨x0, k0, b0⟩ := x.boxed hw0
  have hc := k0.rb 0 (.int .i64 3) (by rw [← hk]; rfl)
  rw [Nat.add_zero, ← hw0] at hc
  have bd : Below w0.heap.size w0 w0.drew := (Below.refl _ _).drew
  have HK0 := Lib.hid (k0.after bd)
  have hi : w0.drew.cell? ⟨w.heap.size, 2, none⟩ = some (.int .i64 o.e.id) ∧ w0.drew.cell? ⟨w.heap.size, 3, none⟩ = some (.int .i64 o.e.owner) ∧ w0.drew.cell? ⟨w.heap.size, 4, none⟩ = some (.int .i64 o.e.kind) ∧ w0.drew.cell? ⟨w.heap.size, 5, none⟩ = some (.int .i64 o.e.ax) ∧ w0.drew.cell? ⟨w.heap.size, 6, none⟩ = some (.int .i64 o.e.ay) ∧ w0.drew.cell? ⟨w.heap.size, 7, none⟩ = some (.int .i64 o.e.hp) ∧ w0.drew.cell? ⟨w.heap.size, 8, none⟩ = some (.int .i64 o.e.doing) ∧ w0.drew.cell? ⟨w.heap.size, 9, none⟩ = some (.int .i64 o.e.gx) ∧ w0.drew.cell? ⟨w.heap.size, 10, none⟩ = some (.int .i64 o.e.gy) ∧ w0.drew.cell? ⟨w.heap.size, 11, none⟩ = some (.int .i64 o.e.target) ∧ w0.drew.cell? ⟨w.heap.size, 12, none⟩ = some (.int .i64 o.e.load) := ent11 (op_ent HK0.out.rb)
  have HX := Lib.hid (x0.after bd)
  have HB := Lib.hid (b0.trans (bd.mono x0.t.sz))
  have HW0 := Lib.hid hw0
  have HL := Lib.hid hl
  clear x k0 x0 b0 hw0 hk hl bd
  go_enter Try.func10, Try.ntmps10
  go_wp2_with fail
  rw [HW0.out]
  clear hc
  go_region_held3 (fun w' => w'.cell? ⟨w.heap.size, 2, none⟩ = some (.int .i64 o.e.id) ∧ w'.cell? ⟨w.heap.size, 3, none⟩ = some (.int .i64 o.e.owner) ∧ w'.cell? ⟨w.heap.size, 4, none⟩ = some (.int .i64 o.e.kind) ∧ w'.cell? ⟨w.heap.size, 5, none⟩ = some (.int .i64 o.e.ax) ∧ w'.cell? ⟨w.heap.size, 6, none⟩ = some (.int .i64 o.e.ay) ∧ w'.cell? ⟨w.heap.size, 7, none⟩ = some (.int .i64 o.e.hp) ∧ w'.cell? ⟨w.heap.size, 8, none⟩ = some (.int .i64 o.e.doing) ∧ w'.cell? ⟨w.heap.size, 9, none⟩ = some (.int .i64 o.e.gx) ∧ w'.cell? ⟨w.heap.size, 10, none⟩ = some (.int .i64 o.e.gy) ∧ w'.cell? ⟨w.heap.size, 11, none⟩ = some (.int .i64 o.e.target) ∧ w'.cell? ⟨w.heap.size, 12, none⟩ = some (.int .i64 o.e.load)) (first | assumption | (go_keep; done))
    (first
      | (go_at_call_of 17 (Value.pointer (some ⟨p, 0, none⟩)); refine (set_p HX.out HL.out o.e).mono ?_; rintro r w1 ⟨v1, rfl, x1, b1, k1⟩; have HK1 := Lib.hid (k1 _ _ HK0.out); have HX1 := Lib.hid x1; have HB1 := Lib.hid (HB.out.trans b1); have hi1 : w1.cell? ⟨w.heap.size, 2, none⟩ = some (.int .i64 o.e.id) ∧ w1.cell? ⟨w.heap.size, 3, none⟩ = some (.int .i64 o.e.owner) ∧ w1.cell? ⟨w.heap.size, 4, none⟩ = some (.int .i64 o.e.kind) ∧ w1.cell? ⟨w.heap.size, 5, none⟩ = some (.int .i64 o.e.ax) ∧ w1.cell? ⟨w.heap.size, 6, none⟩ = some (.int .i64 o.e.ay) ∧ w1.cell? ⟨w.heap.size, 7, none⟩ = some (.int .i64 o.e.hp) ∧ w1.cell? ⟨w.heap.size, 8, none⟩ = some (.int .i64 o.e.doing) ∧ w1.cell? ⟨w.heap.size, 9, none⟩ = some (.int .i64 o.e.gx) ∧ w1.cell? ⟨w.heap.size, 10, none⟩ = some (.int .i64 o.e.gy) ∧ w1.cell? ⟨w.heap.size, 11, none⟩ = some (.int .i64 o.e.target) ∧ w1.cell? ⟨w.heap.size, 12, none⟩ = some (.int .i64 o.e.load) := ent11 (op_ent HK1.out.rb); clear x1 b1 k1)
      | (go_at_call 23; refine (set_q HX1.out HL.out o.e).mono ?_; rintro r w2 ⟨u2, rfl, x2, b2, k2⟩; have hi2 : w2.cell? ⟨w.heap.size, 2, none⟩ = some (.int .i64 o.e.id) ∧ w2.cell? ⟨w.heap.size, 3, none⟩ = some (.int .i64 o.e.owner) ∧ w2.cell? ⟨w.heap.size, 4, none⟩ = some (.int .i64 o.e.kind) ∧ w2.cell? ⟨w.heap.size, 5, none⟩ = some (.int .i64 o.e.ax) ∧ w2.cell? ⟨w.heap.size, 6, none⟩ = some (.int .i64 o.e.ay) ∧ w2.cell? ⟨w.heap.size, 7, none⟩ = some (.int .i64 o.e.hp) ∧ w2.cell? ⟨w.heap.size, 8, none⟩ = some (.int .i64 o.e.doing) ∧ w2.cell? ⟨w.heap.size, 9, none⟩ = some (.int .i64 o.e.gx) ∧ w2.cell? ⟨w.heap.size, 10, none⟩ = some (.int .i64 o.e.gy) ∧ w2.cell? ⟨w.heap.size, 11, none⟩ = some (.int .i64 o.e.target) ∧ w2.cell? ⟨w.heap.size, 12, none⟩ = some (.int .i64 o.e.load) := ent11 (op_ent (k2 _ _ HK1.out).rb); have HX2 := Lib.hid x2; have HB2 := Lib.hid (HB1.out.trans b2); clear x2 b2 k2))
  clear hi hi1 hi2
  go_wp2_with fail
  go_ret
  exact ⟨v1, u2, _, _, rfl, HX2.out, HL.out.setL o.e, by omega, HB2.out⟩

theorem owns_after {w w' : World} {B e sz : Nat} {v : Value} {n : Nat} {xs : List Value} (h : w.ownsRow B e sz v n xs) (hb : Below w.heap.size w w') : w'.ownsRow B e sz v n xs :=
  (Touch.of_below (S := fun _ => False) hb).owns h (fun _ _ x => x)

set_option maxRecDepth 20000 in
set_option maxHeartbeats 4000000 in
theorem step5 (w : World) (B p q : Nat) (v u : Value) (es : List Ent) (g : Int) (x : Two w B p q v u es g es (g + 1)) (hl : Live es g) (o : OpR) (hk : o.kind = 5) :
    Calls Try.prog 10 #[.pointer (some ⟨p, 0, none⟩), .pointer (some ⟨q, 0, none⟩), .agg o.cells.toArray] w (Stepped B p q g w) := by
  obtain ⟨w0, hw0⟩ : ∃ w0, w.alloc (.cells o.cells.toArray 34) = w0 := ⟨_, rfl⟩
  obtain ⟨x0, k0, b0⟩ := x.boxed hw0
  have hc := k0.rb 0 (.int .i64 5) (by rw [← hk]; rfl)
  have hi : w0.drew.cell? ⟨w.heap.size, 1, none⟩ = some (.int .i64 o.id) := k0.rb 1 (.int .i64 o.id) rfl
  rw [Nat.add_zero, ← hw0] at hc
  have bd : Below w0.heap.size w0 w0.drew := (Below.refl _ _).drew
  have HK0 := Lib.hid (k0.after bd)
  have HX := Lib.hid (x0.after bd)
  have HB := Lib.hid (b0.trans (bd.mono x0.t.sz))
  have HW0 := Lib.hid hw0
  have HL := Lib.hid hl
  have hlen : es.length ≤ 100000 := by have := hl.len; omega
  clear x k0 x0 b0 hw0 hk hl bd
  go_enter Try.func10, Try.ntmps10
  go_wp2_with fail
  rw [HW0.out]
  clear hc
  go_region_held3 (fun w' => w'.cell? ⟨w.heap.size, 1, none⟩ = some (.int .i64 o.id)) (first | assumption | (go_keep; done))
    (first
      | (go_at_call_of 19 (Value.pointer (some ⟨p, 0, none⟩)); refine (of_any _ B p v es g HX.out.t hlen o.id).mono ?_; rintro r w1 ⟨l1, rfl, ho1, b1⟩; have HK1 := Lib.hid (HK0.out.after b1); have HX1 := Lib.hid (HX.out.after b1); have HO1 := Lib.hid ho1; have HB1 := Lib.hid (HB.out.trans (b1.mono HX.out.t.sz)); have hi1 : w1.cell? ⟨w.heap.size, 1, none⟩ = some (.int .i64 o.id) := HK1.out.rb 1 _ rfl; clear b1 ho1)
      | (go_at_call 26; refine (rof_any _ B q u es (g + 1) HX1.out.s hlen o.id).mono ?_; rintro r w2 ⟨l2, rfl, ho2, b2⟩; have HK2 := Lib.hid (HK1.out.after b2); have HX2 := Lib.hid (HX1.out.after b2); have HO2 := Lib.hid ho2; have HO3 := Lib.hid (owns_after HO1.out b2); have HB2 := Lib.hid (HB1.out.trans (b2.mono HX1.out.t.sz)); have hi2 : w2.cell? ⟨w.heap.size, 1, none⟩ = some (.int .i64 o.id) := HK2.out.rb 1 _ rfl; clear b2 ho2)
      | (go_at_call 25; refine (sameInts_any _ _ _ l1 l2 (ofL es o.id) HO3.out HO2.out (Nat.le_trans (ofL_len es o.id) hlen)).mono ?_; rintro r w3 ⟨rfl, b3⟩; have HX3 := Lib.hid (HX2.out.after b3); have HB3 := Lib.hid (HB2.out.trans (b3.mono HX2.out.t.sz)); have hi3 : w3.cell? ⟨w.heap.size, 1, none⟩ = some (.int .i64 o.id) := (HK2.out.after b3).rb 1 _ rfl; clear b3))
  clear hi hi1 hi2 hi3
  go_wp2_with fail
  go_ret
  exact ⟨v, u, es, g, rfl, HX3.out, HL.out, by omega, HB3.out⟩

/-- one call of the script -/
theorem step_any (w : World) (B p q : Nat) (v u : Value) (es : List Ent) (g : Int) (x : Two w B p q v u es g es (g + 1)) (hl : Live es g) (hg : g ≤ 1000) (o : OpR) :
    Calls Try.prog 10 #[.pointer (some ⟨p, 0, none⟩), .pointer (some ⟨q, 0, none⟩), .agg o.cells.toArray] w (Stepped B p q g w) := by
  by_cases h1 : o.kind = 1
  · exact step1 w B p q v u es g x hl hg o h1
  by_cases h2 : o.kind = 2
  · exact step2 w B p q v u es g x hl hg o h2
  by_cases h3 : o.kind = 3
  · exact step3 w B p q v u es g x hl o h3
  by_cases h4 : o.kind = 4
  · exact step4 w B p q v u es g x hl o h4
  by_cases h5 : o.kind = 5
  · exact step5 w B p q v u es g x hl o h5
  by_cases h6 : o.kind = 6
  · exact step6 w B p q v u es g x hl hg o h6
  exact step0 w B p q v u es g x hl hg o ⟨h1, h2, h3, h4, h5, h6⟩
end Go.Proofs.Ytgnkehjjeoolcaa
