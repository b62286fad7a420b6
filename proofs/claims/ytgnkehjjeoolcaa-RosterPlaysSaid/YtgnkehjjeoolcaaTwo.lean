/- Two tables beside one another: the program's and the document's; what one of them is told does not reach the other. -/
import Derived.Test.YtgnkehjjeoolcaaFullWalk
namespace Go.Proofs.Ytgnkehjjeoolcaa
open Go.RowKit

structure Two (w : World) (B p q : Nat) (v u : Value) (es : List Ent) (g : Int) (fs : List Ent) (h : Int) : Prop where
  t : Tab w B p v es g
  s : Tab w B q u fs h
  pq : p ≠ q
  vq : v.ownBlock ≠ some q
  up : u.ownBlock ≠ some p
  vu : ∀ k, v.ownBlock = some k → u.ownBlock ≠ some k

structure Kept (w : World) (p q b : Nat) (cs : List Value) (v u : Value) : Prop where
  rb : w.rangeAt b 0 cs
  blt : b < w.heap.size
  bp : b ≠ p
  bq : b ≠ q
  bv : v.ownBlock ≠ some b
  bu : u.ownBlock ≠ some b

theorem Two.swap {w : World} {B p q : Nat} {v u : Value} {es fs : List Ent} {g h : Int} (x : Two w B p q v u es g fs h) : Two w B q p u v fs h es g :=
  ⟨x.s, x.t, x.pq.symm, x.up, x.vq, fun k hk e => x.vu k e hk⟩
theorem Kept.swap {w : World} {p q b : Nat} {cs : List Value} {v u : Value} (x : Kept w p q b cs v u) : Kept w q p b cs u v :=
  ⟨x.rb, x.blt, x.bq, x.bp, x.bu, x.bv⟩

/-- where a slice lies now: where it lay, nowhere, or in a block made since -/
def Went (w : World) (v v' : Value) : Prop := v'.ownBlock = v.ownBlock ∨ v'.ownBlock = none ∨ ∃ k, v'.ownBlock = some k ∧ w.heap.size ≤ k

def Own (p : Nat) (v : Value) (k : Nat) : Prop := k = p ∨ v.ownBlock = some k

theorem Went.ne {w : World} {v v' : Value} (h : Went w v v') {k : Nat} (hk : k < w.heap.size) (hn : v.ownBlock ≠ some k) : v'.ownBlock ≠ some k := by
  rcases h with h | h | ⟨j, h, hj⟩
  · rw [h]; exact hn
  · rw [h]; simp
  · rw [h]; intro e; simp only [Option.some.injEq] at e; omega

theorem Tab.lt {w : World} {B p : Nat} {v : Value} {es : List Ent} {g : Int} (h : Tab w B p v es g) : p < w.heap.size := World.block_lt_of_cell? w _ h.c0

theorem Two.left {w w' : World} {B p q : Nat} {v u v' : Value} {es fs es' : List Ent} {g h g' : Int} (x : Two w B p q v u es g fs h) (ht : Tab w' B p v' es' g') (hT : Touch w w' (Own p v)) (hv : Went w v v') :
    Two w' B p q v' u es' g' fs h :=
  ⟨ht, x.s.touch hT (fun e => by rcases e with e | e; exact x.pq e.symm; exact x.vq e) (fun k hk e => by
      rcases e with e | e
      · rw [e] at hk; exact x.up hk
      · exact x.vu k e hk),
    x.pq, hv.ne x.s.lt x.vq, x.up, fun k hk e => by
      have hlt := (x.s.own.lt k e).2
      exact hv.ne hlt (fun e2 => x.vu k e2 e) hk⟩

theorem Kept.left {w w' : World} {p q b : Nat} {cs : List Value} {v u v' : Value} (x : Kept w p q b cs v u) (hT : Touch w w' (Own p v)) (hv : Went w v v') : Kept w' p q b cs v' u :=
  ⟨fun j c hj => hT.cell (x.rb j c hj) (fun e => by rcases e with e | e; exact x.bp e; exact x.bv e), Nat.lt_of_lt_of_le x.blt hT.size, x.bp, x.bq, hv.ne x.blt x.bv, x.bu⟩

theorem Two.belowB {w w' : World} {B p q : Nat} {v u : Value} {es fs : List Ent} {g h : Int} (x : Two w B p q v u es g fs h) (hT : Touch w w' (Own p v)) : Below B w w' :=
  hT.below x.t.sz (fun j hj => by rcases hj with rfl | hj; exact x.t.ge; exact (x.t.own.lt j hj).1)

theorem Two.after {w w' : World} {B p q : Nat} {v u : Value} {es fs : List Ent} {g h : Int} (x : Two w B p q v u es g fs h) (hb : Below w.heap.size w w') : Two w' B p q v u es g fs h :=
  x.left (tab_below x.t hb) (Touch.of_below hb) (.inl rfl)
theorem Kept.after {w w' : World} {p q b : Nat} {cs : List Value} {v u : Value} (x : Kept w p q b cs v u) (hb : Below w.heap.size w w') : Kept w' p q b cs v u :=
  x.left (Touch.of_below hb) (.inl rfl)

/-- what a call on the first table leaves -/
def PostP (B p q : Nat) (v u : Value) (fs : List Ent) (h : Int) (R : Value) (es' : List Ent) (g' : Int) (w : World) (r : Ending) (w' : World) : Prop :=
  ∃ v', r = .returned R ∧ Two w' B p q v' u es' g' fs h ∧ Below B w w' ∧ ∀ b cs, Kept w p q b cs v u → Kept w' p q b cs v' u
/-- what a call on the second table leaves -/
def PostQ (B p q : Nat) (v u : Value) (es : List Ent) (g : Int) (R : Value) (fs' : List Ent) (h' : Int) (w : World) (r : Ending) (w' : World) : Prop :=
  ∃ u', r = .returned R ∧ Two w' B p q v u' es g fs' h' ∧ Below B w w' ∧ ∀ b cs, Kept w p q b cs v u → Kept w' p q b cs v u'

theorem postP {w w' : World} {B p q : Nat} {v u v' : Value} {es fs es' : List Ent} {g h g' : Int} {R : Value} (x : Two w B p q v u es g fs h) (ht : Tab w' B p v' es' g') (hT : Touch w w' (Own p v)) (hv : Went w v v') :
    PostP B p q v u fs h R es' g' w (.returned R) w' :=
  ⟨v', rfl, x.left ht hT hv, x.belowB hT, fun _ _ k => k.left hT hv⟩
theorem postQ {w w' : World} {B p q : Nat} {v u u' : Value} {es fs fs' : List Ent} {g h h' : Int} {R : Value} (x : Two w B p q v u es g fs h) (ht : Tab w' B q u' fs' h') (hT : Touch w w' (Own q u)) (hv : Went w u u') :
    PostQ B p q v u es g R fs' h' w (.returned R) w' :=
  ⟨u', rfl, (x.swap.left ht hT hv).swap, x.swap.belowB hT, fun _ _ k => (k.swap.left hT hv).swap⟩

/-- the list, the ID and the code behind an insertion -/
def insL (es : List Ent) (g : Int) (e : Ent) : List Ent := if es.length < 40 then es ++ [e.withId (g + 1)] else es
def insG (es : List Ent) (g : Int) : Int := if es.length < 40 then g + 1 else g
def insN (es : List Ent) (g : Int) : Int := if es.length < 40 then g + 1 else 0
def insC (es : List Ent) : Int := if es.length < 40 then 0 else 6

section
variable {w : World} {B p q : Nat} {v u : Value} {es : List Ent} {g : Int}

theorem Moved.went {w : World} {v v' : Value} (h : Moved w v v') : Went w v v' := by
  rcases h with h | h
  · exact .inl h
  · exact .inr (.inr h)

theorem ins_p {fs : List Ent} {h : Int} (x : Two w B p q v u es g fs h) (hl : Live es g) (hg : g ≤ 1000) (e : Ent) :
    Calls Try.prog 14 #[.pointer (some ⟨p, 0, none⟩), .agg e.cells.toArray] w (PostP B p q v u fs h (.tuple #[.int .i64 (insN es g), .int .i64 (insC es)]) (insL es g e) (insG es g) w) := by
  have := hl.pos
  unfold insN insC insL insG
  split
  · rename_i hlt
    refine (insert_ok w B p v es g x.t e hlt (by omega)).mono ?_
    rintro r w' ⟨v', rfl, ht, hT, hm⟩
    exact postP x ht hT hm.went
  · rename_i hlt
    refine (insert_full w B p v es g x.t e (by omega) (.inl (by omega))).mono ?_
    rintro r w' ⟨rfl, hb⟩
    exact postP x (tab_below x.t hb) (Touch.of_below hb) (.inl rfl)

theorem ins_q {ds : List Ent} {d : Int} (x : Two w B p q v u ds d es (g + 1)) (hl : Live es g) (hg : g ≤ 1000) (e : Ent) :
    Calls Try.prog 21 #[.pointer (some ⟨q, 0, none⟩), .agg e.cells.toArray] w (PostQ B p q v u ds d (.tuple #[.int .i64 (insN es g), .int .i64 (insC es)]) (insL es g e) (insG es g + 1) w) := by
  have := hl.pos
  unfold insN insC insL insG
  split
  · rename_i hlt
    refine (rinsert_ok w B q u es (g + 1) x.s e hlt (by omega)).mono ?_
    rintro r w' ⟨v', rfl, ht, hT, hm⟩
    exact postQ x ht hT hm.went
  · rename_i hlt
    refine (rinsert_full w B q u es (g + 1) x.s e (by omega)).mono ?_
    rintro r w' ⟨rfl, hb⟩
    exact postQ x (tab_below x.s hb) (Touch.of_below hb) (.inl rfl)

theorem set_p {fs : List Ent} {h : Int} (x : Two w B p q v u es g fs h) (hl : Live es g) (e : Ent) :
    Calls Try.prog 17 #[.pointer (some ⟨p, 0, none⟩), .agg e.cells.toArray] w (PostP B p q v u fs h (.int .i64 (getC es e.id)) (setL es e) g w) := by
  refine (set_any w B p v es g x.t hl.sorted (by have := hl.len; omega) e).mono ?_
  rintro r w' ⟨rfl, ht, hT⟩
  exact postP x ht (hT.mono fun _ => .inr) (.inl rfl)
theorem set_q {ds : List Ent} {d : Int} {h : Int} (x : Two w B p q v u ds d es h) (hl : Live es g) (e : Ent) :
    Calls Try.prog 23 #[.pointer (some ⟨q, 0, none⟩), .agg e.cells.toArray] w (PostQ B p q v u ds d (.int .i64 (getC es e.id)) (setL es e) h w) := by
  refine (rset_any w B q u es h x.s (by have := hl.len; omega) e).mono ?_
  rintro r w' ⟨rfl, ht, hT⟩
  exact postQ x ht (hT.mono fun _ => .inr) (.inl rfl)

theorem rem_p {fs : List Ent} {h : Int} (x : Two w B p q v u es g fs h) (hl : Live es g) (id : Int) :
    Calls Try.prog 18 #[.pointer (some ⟨p, 0, none⟩), .int .i64 id] w (PostP B p q v u fs h (.int .i64 (getC es id)) (remL es id) g w) := by
  refine (remove_any w B p v es g x.t hl.sorted (by have := hl.len; omega) id).mono ?_
  rintro r w' ⟨v', rfl, ht, hT, hm⟩
  exact postP x ht hT (by rcases hm with hm | hm; exact .inl hm; exact .inr (.inr hm))
theorem rem_q {ds : List Ent} {d : Int} {h : Int} (x : Two w B p q v u ds d es h) (hl : Live es g) (id : Int) :
    Calls Try.prog 24 #[.pointer (some ⟨q, 0, none⟩), .int .i64 id] w (PostQ B p q v u ds d (.int .i64 (getC es id)) (remL es id) h w) := by
  refine (rremove_any w B q u es h x.s (by have := hl.len; omega) id).mono ?_
  rintro r w' ⟨v', rfl, ht, hT, hm⟩
  exact postQ x ht (hT.mono fun _ => .inl) hm

theorem Live.ins (hl : Live es g) (e : Ent) : Live (insL es g e) (insG es g) := by
  unfold Ytgnkehjjeoolcaa.insL insG
  split
  · rename_i h; exact hl.snoc e h
  · exact hl
end
end Go.Proofs.Ytgnkehjjeoolcaa
