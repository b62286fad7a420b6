/- Words for the proofs over the table of entities: an entity as its numbers, a slice of entities that the call owns, a table. -/
import Derived.Test.YtgnkehjjeoolcaaRows
import Derived.WalkKit
import Derived.WalkSpells
import Derived.WalkLawsBesides
import Derived.Lib.Hide
import Derived.Deep.LoopGhost
import Derived.Deep.QuietTactic
import Derived.BigQuiet
import Derived.BigRegion
import Derived.BigGuardPart
import Derived.ChangeAlike
import Derived.Maps.AppendAt
import Derived.Laws.AppendOwnNone
import Derived.Deep.RegionHeld3
import Derived.Deep.AppendLies
import Derived.Deep.MidRow
import Derived.Deep.RegionLaw
namespace Go.Proofs.Ytgnkehjjeoolcaa
open Go.RowKit

theorem ret_int {k : IntKind} {a b : Int} (h : a = b) : Ending.returned (.int k a) = .returned (.int k b) := by rw [h]
theorem ret_bool {a b : Bool} (h : a = b) : Ending.returned (.bool a) = .returned (.bool b) := by rw [h]

/-- an entity -/
structure Ent where
  id : Int
  owner : Int
  kind : Int
  ax : Int
  ay : Int
  hp : Int
  doing : Int
  gx : Int
  gy : Int
  target : Int
  load : Int
deriving DecidableEq

/-- its cells -/
def Ent.cells (e : Ent) : List Value :=
  [.int .i64 e.id, .int .i64 e.owner, .int .i64 e.kind, .int .i64 e.ax, .int .i64 e.ay, .int .i64 e.hp, .int .i64 e.doing, .int .i64 e.gx, .int .i64 e.gy, .int .i64 e.target, .int .i64 e.load]

theorem Ent.len (e : Ent) : e.cells.length = 11 := rfl
theorem Ent.c0 (e : Ent) : e.cells[0]? = some (.int .i64 e.id) := rfl
theorem Ent.c1 (e : Ent) : e.cells[1]? = some (.int .i64 e.owner) := rfl
theorem Ent.one (e : Ent) : ∀ v ∈ e.cells, v.oneCell' = true := by
  intro v hv
  simp only [Ent.cells, List.mem_cons, List.not_mem_nil, or_false] at hv
  rcases hv with rfl | rfl | rfl | rfl | rfl | rfl | rfl | rfl | rfl | rfl | rfl <;> rfl

/-- the empty entity -/
def Ent.zero : Ent := ⟨0, 0, 0, 0, 0, 0, 0, 0, 0, 0, 0⟩

/-- the cells of a list of entities -/
def cellsOf (es : List Ent) : List Value := es.flatMap Ent.cells

theorem cellsOf_len (es : List Ent) : (cellsOf es).length = es.length * 11 := by
  induction es with
  | nil => rfl
  | cons e es ih => simp only [cellsOf, List.flatMap_cons, List.length_append] at *; rw [ih, Ent.len]; simp; omega

theorem cellsOf_append (es fs : List Ent) : cellsOf (es ++ fs) = cellsOf es ++ cellsOf fs := by simp [cellsOf]

theorem cellsOf_get (es : List Ent) : ∀ (k j : Nat) (e : Ent), es[k]? = some e → j < 11 → (cellsOf es)[k * 11 + j]? = e.cells[j]? := by
  induction es with
  | nil => intro k j e h; simp at h
  | cons f es ih =>
    intro k j e h hj
    cases k with
    | zero =>
      simp only [List.getElem?_cons_zero, Option.some.injEq] at h
      subst h
      show (f.cells ++ cellsOf es)[0 * 11 + j]? = _
      rw [Nat.zero_mul, Nat.zero_add, List.getElem?_append_left (by rw [Ent.len]; exact hj)]
    | succ k =>
      simp only [List.getElem?_cons_succ] at h
      show (f.cells ++ cellsOf es)[(k + 1) * 11 + j]? = _
      rw [List.getElem?_append_right (by rw [Ent.len]; omega), Ent.len, ← ih k j e h hj]
      congr 1
      omega

theorem info32 : (Try.prog.info? 32).map (fun i => (i.zero, i.size, i.bytes)) = some (some (.agg Ent.zero.cells.toArray), 11, 88) := by kernel_rfl
theorem size32 : (Try.prog.info? 32).map (·.size) = some 11 := by kernel_rfl
theorem info3 : (Try.prog.info? 3).map (fun i => (i.zero, i.size, i.bytes)) = some (some (.int .i64 0), 1, 8) := by kernel_rfl

theorem cell_new1 (w : World) (v : Value) (T : TypeId) (n : Nat) (h : n = w.heap.size) : (w.alloc (.cells #[v] T)).cell? ⟨n, 0, none⟩ = some v := by
  exact World.cell?_alloc_at _ _ _ _ h
theorem froz_new1 (w : World) (v : Value) (T : TypeId) (n : Nat) (h : n = w.heap.size) : (w.alloc (.cells #[v] T)).frozen? ⟨n, 0, none⟩ = false := by
  exact World.frozen?_alloc_at _ _ _ _ h

/-- what turned between two worlds lies in the blocks S, or is new -/
structure Touch (w w' : World) (S : Nat → Prop) : Prop where
  os : w'.os = w.os
  tape : w'.tape = w.tape
  output : w'.output = w.output
  size : w.heap.size ≤ w'.heap.size
  block : ∀ k, k < w.heap.size → ¬ S k → w'.heap[k]? = w.heap[k]?

theorem Touch.refl (w : World) (S : Nat → Prop) : Touch w w S := ⟨rfl, rfl, rfl, Nat.le_refl _, fun _ _ _ => rfl⟩
theorem Touch.trans {a b c : World} {S : Nat → Prop} (h : Touch a b S) (k : Touch b c S) : Touch a c S :=
  ⟨k.os.trans h.os, k.tape.trans h.tape, k.output.trans h.output, Nat.le_trans h.size k.size, fun i hi hs => (k.block i (Nat.lt_of_lt_of_le hi h.size) hs).trans (h.block i hi hs)⟩
/-- a second step that touches only what is new, or S -/
theorem Touch.then {a b c : World} {S R : Nat → Prop} (h : Touch a b S) (k : Touch b c R) (hr : ∀ i, i < a.heap.size → R i → S i) : Touch a c S :=
  ⟨k.os.trans h.os, k.tape.trans h.tape, k.output.trans h.output, Nat.le_trans h.size k.size, fun i hi hs => (k.block i (Nat.lt_of_lt_of_le hi h.size) (fun hx => hs (hr i hi hx))).trans (h.block i hi hs)⟩
theorem Touch.mono {a b : World} {S R : Nat → Prop} (h : Touch a b S) (hr : ∀ i, S i → R i) : Touch a b R :=
  ⟨h.os, h.tape, h.output, h.size, fun i hi hs => h.block i hi (fun hx => hs (hr i hx))⟩
theorem Touch.drew {a b : World} {S : Nat → Prop} (h : Touch a b S) : Touch a b.drew S := ⟨h.os, h.tape, h.output, h.size, h.block⟩
theorem Touch.drewN {a b : World} {S : Nat → Prop} (h : Touch a b S) (n : Nat) : Touch a (b.drewN n) S := ⟨h.os, h.tape, h.output, h.size, h.block⟩
theorem Touch.alloc {a b : World} {S : Nat → Prop} (h : Touch a b S) (o : Obj) : Touch a (b.alloc o) S :=
  ⟨h.os, h.tape, h.output, Nat.le_trans h.size (by simp), fun i hi hs => (Below.heap_alloc _ _ _ (Nat.lt_of_lt_of_le hi h.size)).trans (h.block i hi hs)⟩
theorem Touch.setCell {a b : World} {S : Nat → Prop} (h : Touch a b S) (p : Addr) (v : Value) (hp : S p.block ∨ a.heap.size ≤ p.block) : Touch a (b.setCell p v) S :=
  ⟨h.os, h.tape, h.output, Nat.le_trans h.size (by simp), fun i hi hs => (Below.heap_setCell _ _ _ _ (by rintro rfl; rcases hp with hp | hp; exact hs hp; omega)).trans (h.block i hi hs)⟩
theorem Touch.setCells {a : World} {S : Nat → Prop} (q : Nat) (hp : S q ∨ a.heap.size ≤ q) : ∀ (vs : List Value) (o : Nat) (b : World), Touch a b S → Touch a (b.setCells q o vs) S
  | [], _, _, h => h
  | v :: vs, o, b, h => by
    rw [World.setCells]
    exact Touch.setCells q hp vs (o + 1) _ (h.setCell ⟨q, o, none⟩ v hp)
theorem Touch.grown {a b c : World} {S : Nat → Prop} {row : Option Nat} (h : Touch a b S) (g : b.grownBy c row) (hr : ∀ k, row = some k → S k ∨ a.heap.size ≤ k) : Touch a c S :=
  ⟨g.os.trans h.os, g.tape.trans h.tape, g.output.trans h.output, Nat.le_trans h.size g.size, fun i hi hs => (g.block i (Nat.lt_of_lt_of_le hi h.size) (fun e => by rcases hr i e.symm with h | h; exact hs h; omega)).trans (h.block i hi hs)⟩
theorem Touch.of_below {a b : World} {S : Nat → Prop} (h : Below a.heap.size a b) : Touch a b S := ⟨h.os, h.tape, h.output, h.size, fun i hi _ => h.block i hi⟩
theorem Touch.below {a b : World} {S : Nat → Prop} (h : Touch a b S) {B : Nat} (hB : B ≤ a.heap.size) (hS : ∀ i, S i → B ≤ i) : Below B a b :=
  ⟨h.os, h.tape, h.output, h.size, fun i hi => h.block i (by omega) (fun hx => by have := hS i hx; omega)⟩
theorem Touch.cell {a b : World} {S : Nat → Prop} (h : Touch a b S) {p : Addr} {v : Value} (hc : a.cell? p = some v) (hn : ¬ S p.block) : b.cell? p = some v :=
  (World.cell?_of_block (h.block p.block (World.block_lt_of_cell? a p hc) hn)).trans hc
theorem Touch.frozen {a b : World} {S : Nat → Prop} (h : Touch a b S) {p : Addr} (hp : p.block < a.heap.size) (hn : ¬ S p.block) : b.frozen? p = a.frozen? p :=
  World.frozen?_of_block (h.block p.block hp hn)
theorem Touch.owns {a b : World} {S : Nat → Prop} (h : Touch a b S) {B e sz : Nat} {v : Value} {n : Nat} {xs : List Value} (ho : a.ownsRow B e sz v n xs) (hn : ∀ k, v.ownBlock = some k → ¬ S k) : b.ownsRow B e sz v n xs := by
  obtain ⟨h1, h2⟩ := ho
  refine ⟨h1, ?_⟩
  rcases h2 with h2 | ⟨g, cap, cur, hv, hg, hh, r⟩
  · exact .inl h2
  · refine .inr ⟨g, cap, cur, hv, hg, ?_, r⟩
    have hlt : g < a.heap.size := by
      rcases Nat.lt_or_ge g a.heap.size with h | h
      · exact h
      · rw [Array.getElem?_eq_none h] at hh; cases hh
    rw [h.block g hlt (hn g (by rw [hv]; rfl)), hh]

/-- a table: its slice, what was given, its entities -/
structure Tab (w : World) (B p : Nat) (v : Value) (es : List Ent) (given : Int) : Prop where
  c0 : w.cell? ⟨p, 0, none⟩ = some v
  c1 : w.cell? ⟨p, 1, none⟩ = some (.int .i64 given)
  f0 : w.frozen? ⟨p, 0, none⟩ = false
  f1 : w.frozen? ⟨p, 1, none⟩ = false
  own : w.ownsRow B 32 11 v es.length (cellsOf es)
  ne : v.ownBlock ≠ some p
  ge : B ≤ p
  sz : B ≤ w.heap.size

theorem owns_form {w : World} {B e sz : Nat} {v : Value} {n : Nat} {xs : List Value} (h : w.ownsRow B e sz v n xs) : ∃ ao cap, v = .slice ao n cap ∧ n ≤ cap ∧ cap ≤ maxLen := by
  rcases h.2 with ⟨rfl, rfl⟩ | ⟨g, cap, cur, rfl, _, _, h1, h2, _⟩
  · exact ⟨_, _, rfl, Nat.le_refl _, Nat.zero_le _⟩
  · exact ⟨_, _, rfl, h1, h2⟩

theorem owns_some {w : World} {B e sz : Nat} {ao : Option Addr} {n cap : Nat} {xs : List Value} (h : w.ownsRow B e sz (.slice ao n cap) n xs) (hn : 0 < n) : ∃ g, ao = some ⟨g, 0, none⟩ ∧ B ≤ g := by
  rcases h.2 with ⟨_, h0⟩ | ⟨g, cap', cur, hv, hg, _⟩
  · omega
  · simp only [Value.slice.injEq] at hv
    exact ⟨g, hv.1, hg⟩

/-- the cells of an entity of a slice -/
theorem owns_range {w : World} {B g cap : Nat} {es : List Ent} (h : w.ownsRow B 32 11 (.slice (some ⟨g, 0, none⟩) es.length cap) es.length (cellsOf es)) {k : Nat} {e : Ent} (hk : es[k]? = some e) : w.rangeAt g (k * 11) e.cells := by
  intro j v hj
  have hl : k < es.length := (List.getElem?_eq_some_iff.1 hk).1
  have hj11 : j < 11 := by have := (List.getElem?_eq_some_iff.1 hj).1; rw [Ent.len] at this; exact this
  rw [h.cellAt (k * 11 + j) (by omega), cellsOf_get es k j e hk hj11, hj]

theorem Tab.touch {w w' : World} {B p : Nat} {v : Value} {es : List Ent} {given : Int} (h : Tab w B p v es given) {S : Nat → Prop} (t : Touch w w' S) (h1 : ¬ S p) (h2 : ∀ k, v.ownBlock = some k → ¬ S k) : Tab w' B p v es given :=
  ⟨t.cell h.c0 h1, t.cell h.c1 h1, (t.frozen (World.block_lt_of_cell? w _ h.c0) h1).trans h.f0, (t.frozen (World.block_lt_of_cell? w _ h.c1) h1).trans h.f1, t.owns h.own h2, h.ne, h.ge, Nat.le_trans h.sz t.size⟩

theorem size32e (e : Ent) : (Try.prog.info? 32).map (·.size) = some e.cells.length := size32
theorem size32a (e : Ent) : (Try.prog.info? 32).map (·.size) = some e.cells.toArray.size := size32
theorem Ent.all (e : Ent) : e.cells.toArray.all (·.oneCell') = true := all_oneCell_toArray e.one

/-- an entity, loaded -/
theorem load_ent {ops : Array Oper} {rest : List Oper} {op : Oper} {a : Act} {w : World} {Q : Exit → Act → World → Prop} (hgd : op.guard = none) (x : Operand) (ho : op.op = .load 32 x)
    (b o : Nat) (hx : a.eval x = .pointer (some ⟨b, o, none⟩)) (e : Ent) (hc : w.rangeAt b o e.cells)
    (h : wpList Try.prog ops Q rest (a.put op.dst (.agg e.cells.toArray)) w) : wpList Try.prog ops Q (op :: rest) a w :=
  wpList_load_mid hgd 32 x ho b o hx e.cells _ hc Try.underlying32 rfl (size32e e) h

/-- an entity, loaded under a guard that says yes -/
theorem load_ent_g {ops : Array Oper} {rest : List Oper} {op : Oper} {a : Act} {w : World} {Q : Exit → Act → World → Prop} (hw : Region.wanted op (yielded ops a.tmps) = true) (x : Operand) (ho : op.op = .load 32 x)
    (b o : Nat) (hx : a.eval x = .pointer (some ⟨b, o, none⟩)) (e : Ent) (hc : w.rangeAt b o e.cells)
    (h : wpList Try.prog ops Q rest (a.put op.dst (.agg e.cells.toArray)) w) : wpList Try.prog ops Q (op :: rest) a w :=
  BigFrame.wpList_want hw fun _ hK => wp_load_mid 32 x ho b o hx e.cells _ hc Try.underlying32 rfl (size32e e) (hK _ _ h)

/-- an entity, stored -/
theorem store_ent {ops : Array Oper} {rest : List Oper} {op : Oper} {a : Act} {w : World} {Q : Exit → Act → World → Prop} (hgd : op.guard = none) (x y : Operand) (ho : op.op = .store 32 x y)
    (b o : Nat) (e : Ent) (hx : a.eval x = .pointer (some ⟨b, o, none⟩)) (hy : a.eval y = .agg e.cells.toArray)
    (ht : w.there b o 11)
    (h : wpList Try.prog ops Q rest (a.put op.dst undef) (w.setCells b o e.cells)) : wpList Try.prog ops Q (op :: rest) a w :=
  wpList_store_mid hgd 32 x y ho b o e.cells.toArray hx hy ht (size32a e) e.all h

/-- an entity, loaded at a step of a region that draws -/
theorem step_load_ent {ops : Array Oper} {o : Oper} {a : Act} {w : World} {K : Act → World → Prop} {Q : Exit → Act → World → Prop} {E : Prop} (hg : o.guard = none) (x : Operand) (ho : o.op = .load 32 x)
    (b off : Nat) (hx : a.eval x = .pointer (some ⟨b, off, none⟩)) (e : Ent) (hc : w.rangeAt b off e.cells) (h : K (a.put o.dst (.agg e.cells.toArray)) w) :
    if Region.wanted o (yielded ops a.tmps) = true then Oper.wp Try.prog o a w K Q else E := by
  rw [if_pos (by simp [Region.wanted, hg])]
  exact wp_load_mid 32 x ho b off hx e.cells _ hc Try.underlying32 rfl (size32e e) h

/-- an entity, stored at a step of a region that draws -/
theorem step_store_ent {ops : Array Oper} {o : Oper} {a : Act} {w : World} {K : Act → World → Prop} {Q : Exit → Act → World → Prop} {E : Prop} (hg : o.guard = none) (x y : Operand) (ho : o.op = .store 32 x y)
    (b off : Nat) (e : Ent) (hx : a.eval x = .pointer (some ⟨b, off, none⟩)) (hy : a.eval y = .agg e.cells.toArray) (ht : w.there b off 11) (h : K (a.put o.dst undef) (w.setCells b off e.cells)) :
    if Region.wanted o (yielded ops a.tmps) = true then Oper.wp Try.prog o a w K Q else E := by
  rw [if_pos (by simp [Region.wanted, hg])]
  exact wp_store_mid 32 x y ho b off e.cells.toArray hx hy ht (size32a e) e.all h
end Go.Proofs.Ytgnkehjjeoolcaa
