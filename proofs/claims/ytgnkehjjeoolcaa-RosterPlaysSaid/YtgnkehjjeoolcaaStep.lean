/- One call of the script, on both tables: the answers are the same, and so are the lists behind it. -/
import Derived.Test.YtgnkehjjeoolcaaTwo
import Derived.Test.YtgnkehjjeoolcaaOpen
import Derived.Deep.RegionHeld3
namespace Go.Proofs.Ytgnkehjjeoolcaa
open Go.RowKit

/-- what a step leaves -/
def Stepped (B p q : Nat) (g : Int) (w : World) (r : Ending) (w' : World) : Prop :=
  ∃ v' u' es' g', r = .returned (.bool true) ∧ Two w' B p q v' u' es' g' es' (g' + 1) ∧ Live es' g' ∧ g' ≤ g + 1 ∧ Below B w w'

theorem op_ent {w : World} {b : Nat} {o : OpR} (h : w.rangeAt b 0 o.cells) : w.rangeAt b 2 o.e.cells := fun j c hj => by
  have := h (2 + j) c (by rw [OpR.cells, List.getElem?_append_right (by simp)]; simpa using hj)
  simpa using this

theorem Two.boxed {w w0 : World} {B p q : Nat} {v u : Value} {es fs : List Ent} {g h : Int} (x : Two w B p q v u es g fs h) {cs : List Value} {T : TypeId} (hw0 : w.alloc (.cells cs.toArray T) = w0) :
    Two w0 B p q v u es g fs h ∧ Kept w0 p q w.heap.size cs v u ∧ Below B w w0 := by
  have hb : Below w.heap.size w w0 := by rw [← hw0]; exact (Below.refl _ _).alloc (Nat.le_refl _) _
  refine ⟨x.after hb, ⟨?_, by rw [← hw0]; simp, ?_, ?_, ?_, ?_⟩, hb.mono x.t.sz⟩
  · rw [← hw0]; exact fun j u hj => by rw [World.cell?_alloc_at _ _ _ _ rfl, Nat.zero_add]; simpa using hj
  · have := x.t.lt; omega
  · have := x.s.lt; omega
  · intro e; have := (x.t.own.lt _ e).2; omega
  · intro e; have := (x.s.own.lt _ e).2; omega

theorem stored {w wz : World} {e : Ent} (h : (w.alloc (.cells #[.int .i64 0, .int .i64 0, .int .i64 0, .int .i64 0, .int .i64 0, .int .i64 0, .int .i64 0, .int .i64 0, .int .i64 0, .int .i64 0, .int .i64 0] 32)).setCells w.heap.size 0 e.cells = wz) : Below w.heap.size w wz ∧ wz.rangeAt w.heap.size 0 e.cells ∧ w.heap.size < wz.heap.size := by
  have T0 : Touch w wz (fun _ => False) := by rw [← h]; exact Touch.setCells (S := fun _ => False) _ (.inr (Nat.le_refl _)) _ _ _ ((Touch.refl _ _).alloc _)
  have r : wz.rangeAt w.heap.size 0 e.cells := by rw [← h]; exact World.rangeAt_setCells_same _ _ _ _ (there_new w _ 32 11 rfl)
  exact ⟨T0.below (Nat.le_refl _) (fun _ h => h.elim), r, World.block_lt_of_cell? wz _ (r 0 _ rfl)⟩

set_option maxRecDepth 20000 in
set_option maxHeartbeats 4000000 in
theorem step1 (w : World) (B p q : Nat) (v u : Value) (es : List Ent) (g : Int) (x : Two w B p q v u es g es (g + 1)) (hl : Live es g) (hg : g ≤ 1000) (o : OpR) (hk : o.kind = 1) :
    Calls Try.prog 10 #[.pointer (some ⟨p, 0, none⟩), .pointer (some ⟨q, 0, none⟩), .agg o.cells.toArray] w (Stepped B p q g w) := by
  obtain ⟨w0, hw0⟩ : ∃ w0, w.alloc (.cells o.cells.toArray 34) = w0 := ⟨_, rfl⟩
  obtain ⟨x0, k0, b0⟩ := x.boxed hw0
  have hc := k0.rb 0 (.int .i64 1) (by rw [← hk]; rfl)
  rw [Nat.add_zero, ← hw0] at hc
  have hr := op_ent k0.rb
  have HK0 := Lib.hid k0
  have HR := Lib.hid hr
  have HX := Lib.hid x0
  have HB := Lib.hid b0
  have HW0 := Lib.hid hw0
  have HL := Lib.hid hl
  clear hr x k0 x0 b0 hw0 hk hl
  go_enter Try.func10, Try.ntmps10
  go_wp2_with (rw [HW0.out]; refine load_ent rfl (.tmp 25) rfl _ _ rfl o.e HR.out ?_)
  refine (ins_p HX.out HL.out hg o.e).mono ?_
  rintro r w1 ⟨v1, rfl, x1, b1, k1⟩
  have HK1 := Lib.hid (k1 _ _ HK0.out)
  have HX1 := Lib.hid x1
  have HB1 := Lib.hid (HB.out.trans b1)
  have HR1 := Lib.hid (op_ent HK1.out.rb)
  clear hc x1 b1 k1 HK0 HR HX HB HW0
  go_wp2_with (refine load_ent rfl (.tmp 32) rfl _ _ rfl o.e HR1.out ?_)
  refine (ins_q HX1.out HL.out hg o.e).mono ?_
  rintro r w2 ⟨u2, rfl, x2, b2, k2⟩
  have HX2 := Lib.hid x2
  have HB2 := Lib.hid (HB1.out.trans b2)
  clear x2 b2 k2 HX1 HB1 HR1 HK1
  go_wp2_with fail
  go_ret
  exact ⟨v1, u2, _, _, rfl, HX2.out, HL.out.ins o.e, by unfold insG; split <;> omega, HB2.out⟩

set_option maxRecDepth 20000 in
set_option maxHeartbeats 4000000 in
theorem step2 (w : World) (B p q : Nat) (v u : Value) (es : List Ent) (g : Int) (x : Two w B p q v u es g es (g + 1)) (hl : Live es g) (hg : g ≤ 1000) (o : OpR) (hk : o.kind = 2) :
    Calls Try.prog 10 #[.pointer (some ⟨p, 0, none⟩), .pointer (some ⟨q, 0, none⟩), .agg o.cells.toArray] w (Stepped B p q g w) := by
  obtain ⟨w0, hw0⟩ : ∃ w0, w.alloc (.cells o.cells.toArray 34) = w0 := ⟨_, rfl⟩
  obtain ⟨x0, k0, b0⟩ := x.boxed hw0
  have hc := k0.rb 0 (.int .i64 2) (by rw [← hk]; rfl)
  have hi := k0.rb 1 (.int .i64 o.id) rfl
  rw [Nat.add_zero, ← hw0] at hc
  rw [Nat.zero_add, ← hw0] at hi
  have HK0 := Lib.hid k0
  have HX := Lib.hid x0
  have HB := Lib.hid b0
  have HW0 := Lib.hid hw0
  have HL := Lib.hid hl
  clear x k0 x0 b0 hw0 hk hl
  go_enter Try.func10, Try.ntmps10
  go_wp2_with fail
  rw [HW0.out]
  refine (get_any w0 B p v es g HX.out.t HL.out.sorted (by have := HL.out.len; omega) o.id).mono ?_
  rintro r w1 ⟨rfl, b1⟩
  obtain ⟨z1, hz1⟩ : ∃ z1, ((w1.alloc (.cells #[.int .i64 0, .int .i64 0, .int .i64 0, .int .i64 0, .int .i64 0, .int .i64 0, .int .i64 0, .int .i64 0, .int .i64 0, .int .i64 0, .int .i64 0] 32)).setCells w1.heap.size 0 (getE es o.id).cells) = z1 := ⟨_, rfl⟩
  obtain ⟨bz, hr1, hs1⟩ := stored hz1
  have HX1 := Lib.hid ((HX.out.after b1).after bz)
  have HK1 := Lib.hid ((HK0.out.after b1).after bz)
  have HB1 := Lib.hid ((HB.out.trans (b1.mono HX.out.t.sz)).trans (bz.mono (HX.out.after b1).t.sz))
  have HR1 := Lib.hid hr1
  have HS1 : Hid (w1.heap.size < z1.heap.size) := hs1
  have TZ1 := Lib.hid (there_new w1 #[.int .i64 0, .int .i64 0, .int .i64 0, .int .i64 0, .int .i64 0, .int .i64 0, .int .i64 0, .int .i64 0, .int .i64 0, .int .i64 0, .int .i64 0] 32 11 rfl)
  have HZ1 := Lib.hid hz1
  have hi1 : z1.cell? ⟨w.heap.size, 1, none⟩ = some (.int .i64 o.id) := HK1.out.rb 1 _ rfl
  clear hc hi b1 bz hr1 hs1 hz1 HX HB HK0 HW0
  obtain ⟨f, hf⟩ : ∃ f, getE es o.id = f := ⟨_, rfl⟩
  obtain ⟨c, hc⟩ : ∃ c, getC es o.id = c := ⟨_, rfl⟩
  rw [hf] at HZ1 HR1
  have HF := Lib.hid hf
  have HC := Lib.hid hc
  rw [hf, hc]
  clear hf hc
  go_wp2_with (refine store_ent rfl (.tmp 11) (.tmp 52) rfl _ _ f rfl rfl TZ1.out ?_; rw [HZ1.out])
  clear hi1
  refine (rget_any z1 B q u es (g + 1) HX1.out.s (by have := HL.out.len; omega) o.id).mono ?_
  rintro r w2 ⟨rfl, b2⟩
  rw [HF.out, HC.out]
  obtain ⟨z2, hz2⟩ : ∃ z2, ((w2.alloc (.cells #[.int .i64 0, .int .i64 0, .int .i64 0, .int .i64 0, .int .i64 0, .int .i64 0, .int .i64 0, .int .i64 0, .int .i64 0, .int .i64 0, .int .i64 0] 32)).setCells w2.heap.size 0 f.cells) = z2 := ⟨_, rfl⟩
  obtain ⟨bz, hr2, hs2⟩ := stored hz2
  have HX2 := Lib.hid ((HX1.out.after b2).after bz)
  have HB2 := Lib.hid ((HB1.out.trans (b2.mono HX1.out.t.sz)).trans (bz.mono (HX1.out.after b2).t.sz))
  have HR2 := Lib.hid hr2
  have HR3 := Lib.hid (range_below (b2.trans (bz.mono b2.size)) HR1.out HS1.out)
  have TZ2 := Lib.hid (there_new w2 #[.int .i64 0, .int .i64 0, .int .i64 0, .int .i64 0, .int .i64 0, .int .i64 0, .int .i64 0, .int .i64 0, .int .i64 0, .int .i64 0, .int .i64 0] 32 11 rfl)
  have HZ2 := Lib.hid hz2
  have heq := eql_ent f
  clear b2 bz hr2 hs2 hz2 HX1 HK1 HB1 HR1 TZ1 HZ1
  go_wp2_with (first | (refine store_ent rfl (.tmp 13) (.tmp 59) rfl _ _ f rfl rfl TZ2.out ?_; rw [HZ2.out]) | (refine load_ent rfl (.tmp 11) rfl _ _ rfl f HR3.out ?_) | (refine load_ent rfl (.tmp 13) rfl _ _ rfl f HR2.out ?_) | (rw [heq]))
  go_ret
  exact ⟨v, u, es, g, rfl, HX2.out, HL.out, by omega, HB2.out⟩

set_option maxRecDepth 20000 in
set_option maxHeartbeats 4000000 in
theorem step6 (w : World) (B p q : Nat) (v u : Value) (es : List Ent) (g : Int) (x : Two w B p q v u es g es (g + 1)) (hl : Live es g) (hg : g ≤ 1000) (o : OpR) (hk : o.kind = 6) :
    Calls Try.prog 10 #[.pointer (some ⟨p, 0, none⟩), .pointer (some ⟨q, 0, none⟩), .agg o.cells.toArray] w (Stepped B p q g w) := by
  obtain ⟨w0, hw0⟩ : ∃ w0, w.alloc (.cells o.cells.toArray 34) = w0 := ⟨_, rfl⟩
  obtain ⟨x0, k0, b0⟩ := x.boxed hw0
  have hc := k0.rb 0 (.int .i64 6) (by rw [← hk]; rfl)
  have hi := k0.rb 5 (.int .i64 o.e.ax) rfl
  have hj := k0.rb 6 (.int .i64 o.e.ay) rfl
  rw [Nat.add_zero, ← hw0] at hc
  rw [Nat.zero_add, ← hw0] at hi hj
  have HK0 := Lib.hid k0
  have HX := Lib.hid x0
  have HB := Lib.hid b0
  have HW0 := Lib.hid hw0
  have HL := Lib.hid hl
  clear x k0 x0 b0 hw0 hk hl
  go_enter Try.func10, Try.ntmps10
  go_wp2_with fail
  rw [HW0.out]
  refine (at_any w0 B p v es g HX.out.t (by have := HL.out.len; omega) o.e.ax o.e.ay).mono ?_
  rintro r w1 ⟨rfl, b1⟩
  obtain ⟨z1, hz1⟩ : ∃ z1, ((w1.alloc (.cells #[.int .i64 0, .int .i64 0, .int .i64 0, .int .i64 0, .int .i64 0, .int .i64 0, .int .i64 0, .int .i64 0, .int .i64 0, .int .i64 0, .int .i64 0] 32)).setCells w1.heap.size 0 (atE es o.e.ax o.e.ay).cells) = z1 := ⟨_, rfl⟩
  obtain ⟨bz, hr1, hs1⟩ := stored hz1
  have HX1 := Lib.hid ((HX.out.after b1).after bz)
  have HK1 := Lib.hid ((HK0.out.after b1).after bz)
  have HB1 := Lib.hid ((HB.out.trans (b1.mono HX.out.t.sz)).trans (bz.mono (HX.out.after b1).t.sz))
  have HR1 := Lib.hid hr1
  have HS1 : Hid (w1.heap.size < z1.heap.size) := hs1
  have TZ1 := Lib.hid (there_new w1 #[.int .i64 0, .int .i64 0, .int .i64 0, .int .i64 0, .int .i64 0, .int .i64 0, .int .i64 0, .int .i64 0, .int .i64 0, .int .i64 0, .int .i64 0] 32 11 rfl)
  have HZ1 := Lib.hid hz1
  have hi1 : z1.cell? ⟨w.heap.size, 5, none⟩ = some (.int .i64 o.e.ax) := HK1.out.rb 5 _ rfl
  have hj1 : z1.cell? ⟨w.heap.size, 6, none⟩ = some (.int .i64 o.e.ay) := HK1.out.rb 6 _ rfl
  clear hc hi hj b1 bz hr1 hs1 hz1 HX HB HK0 HW0
  obtain ⟨f, hf⟩ : ∃ f, atE es o.e.ax o.e.ay = f := ⟨_, rfl⟩
  obtain ⟨c, hc⟩ : ∃ c, atB es o.e.ax o.e.ay = c := ⟨_, rfl⟩
  rw [hf] at HZ1 HR1
  have HF := Lib.hid hf
  have HC := Lib.hid hc
  rw [hf, hc]
  clear hf hc
  go_wp2_with (refine store_ent rfl (.tmp 15) (.tmp 110) rfl _ _ f rfl rfl TZ1.out ?_; rw [HZ1.out])
  clear hi1 hj1
  refine (rat_any z1 B q u es (g + 1) HX1.out.s (by have := HL.out.len; omega) o.e.ax o.e.ay).mono ?_
  rintro r w2 ⟨rfl, b2⟩
  rw [HF.out, HC.out]
  obtain ⟨z2, hz2⟩ : ∃ z2, ((w2.alloc (.cells #[.int .i64 0, .int .i64 0, .int .i64 0, .int .i64 0, .int .i64 0, .int .i64 0, .int .i64 0, .int .i64 0, .int .i64 0, .int .i64 0, .int .i64 0] 32)).setCells w2.heap.size 0 f.cells) = z2 := ⟨_, rfl⟩
  obtain ⟨bz, hr2, hs2⟩ := stored hz2
  have HX2 := Lib.hid ((HX1.out.after b2).after bz)
  have HB2 := Lib.hid ((HB1.out.trans (b2.mono HX1.out.t.sz)).trans (bz.mono (HX1.out.after b2).t.sz))
  have HR2 := Lib.hid hr2
  have HR3 := Lib.hid (range_below (b2.trans (bz.mono b2.size)) HR1.out HS1.out)
  have TZ2 := Lib.hid (there_new w2 #[.int .i64 0, .int .i64 0, .int .i64 0, .int .i64 0, .int .i64 0, .int .i64 0, .int .i64 0, .int .i64 0, .int .i64 0, .int .i64 0, .int .i64 0] 32 11 rfl)
  have HZ2 := Lib.hid hz2
  have heq := eql_ent f
  clear b2 bz hr2 hs2 hz2 HX1 HK1 HB1 HR1 TZ1 HZ1
  go_wp2_with (first | (refine store_ent rfl (.tmp 17) (.tmp 118) rfl _ _ f rfl rfl TZ2.out ?_; rw [HZ2.out]) | (refine load_ent rfl (.tmp 15) rfl _ _ rfl f HR3.out ?_) | (refine load_ent rfl (.tmp 17) rfl _ _ rfl f HR2.out ?_) | (rw [heq]))
  go_ret
  exact ⟨v, u, es, g, rfl, HX2.out, HL.out, by omega, HB2.out⟩

set_option maxRecDepth 20000 in
set_option maxHeartbeats 4000000 in
theorem step0 (w : World) (B p q : Nat) (v u : Value) (es : List Ent) (g : Int) (x : Two w B p q v u es g es (g + 1)) (hl : Live es g) (hg : g ≤ 1000) (o : OpR)
    (hk : o.kind ≠ 1 ∧ o.kind ≠ 2 ∧ o.kind ≠ 3 ∧ o.kind ≠ 4 ∧ o.kind ≠ 5 ∧ o.kind ≠ 6) :
    Calls Try.prog 10 #[.pointer (some ⟨p, 0, none⟩), .pointer (some ⟨q, 0, none⟩), .agg o.cells.toArray] w (Stepped B p q g w) := by
  obtain ⟨w0, hw0⟩ : ∃ w0, w.alloc (.cells o.cells.toArray 34) = w0 := ⟨_, rfl⟩
  obtain ⟨x0, k0, b0⟩ := x.boxed hw0
  have hc := k0.rb 0 (.int .i64 o.kind) rfl
  rw [Nat.add_zero, ← hw0] at hc
  have HX := Lib.hid x0
  have HB := Lib.hid b0
  have HW0 := Lib.hid hw0
  have HL := Lib.hid hl
  generalize o.kind = kind at hk hc
  obtain ⟨h1, h2, h3, h4, h5, h6⟩ := hk
  replace h1 : (kind == 1) = false := by simpa using h1
  replace h2 : (kind == 2) = false := by simpa using h2
  replace h3 : (kind == 3) = false := by simpa using h3
  replace h4 : (kind == 4) = false := by simpa using h4
  replace h5 : (kind == 5) = false := by simpa using h5
  replace h6 : (kind == 6) = false := by simpa using h6
  clear x k0 x0 b0 hw0 hl
  go_enter Try.func10, Try.ntmps10
  go_wp2_with fail
  go_ret
  rw [HW0.out]
  exact ⟨v, u, es, g, rfl, HX.out, HL.out, by omega, HB.out⟩

end Go.Proofs.Ytgnkehjjeoolcaa
