/- The contracts of Get, the program's and the document's. -/
import Derived.Test.YtgnkehjjeoolcaaFind
namespace Go.Proofs.Ytgnkehjjeoolcaa
open Go.RowKit

theorem results_ent {fn : Func} {a b : Tmp} (h : fn.results = #[.cell a 32, .tmp b]) (tmps : Array Value) (w : World) (N o : Nat) (e : Ent) (hp : tmps.getD a undef = .pointer (some ⟨N, o, none⟩)) (hr : w.rangeAt N o e.cells) :
    (results fn tmps).run Try.prog w = .ok (.tuple #[.agg e.cells.toArray, tmps.getD b undef]) w := by
  have hl := run_loadVar_mid (P := Try.prog) w N o 32 e.cells _ hr Try.underlying32 rfl (size32e e)
  have hp' : tmps[a]?.getD undef = .pointer (some ⟨N, o, none⟩) := by simpa using hp
  simp [results, h, hp', asAddr, hl]

theorem there_new (w : World) (C : Array Value) (T : TypeId) (n : Nat) (hn : C.size = n) : (w.alloc (.cells C T)).there w.heap.size 0 n := by
  intro j hj
  rw [Nat.zero_add]
  exact ⟨by rw [World.cell?_alloc_at _ _ _ _ rfl, Array.getElem?_eq_getElem (by omega)]; rfl, World.frozen?_alloc_at _ _ _ _ rfl⟩

theorem there_below {B : Nat} {w w' : World} (hb : Below B w w') {N o n : Nat} (h : w.there N o n) (hN : N < B) : w'.there N o n := fun j hj => by
  rw [hb.cell (p := ⟨N, o + j, none⟩) hN, hb.frozen (p := ⟨N, o + j, none⟩) hN]; exact h j hj

theorem range_below {B : Nat} {w w' : World} (hb : Below B w w') {N o : Nat} {cs : List Value} (h : w.rangeAt N o cs) (hN : N < B) : w'.rangeAt N o cs := fun j v hj => by
  rw [hb.cell (p := ⟨N, o + j, none⟩) hN]; exact h j v hj

theorem tab_below {w w' : World} {B p : Nat} {v : Value} {es : List Ent} {given : Int} (h : Tab w B p v es given) (hb : Below w.heap.size w w') : Tab w' B p v es given :=
  h.touch (Touch.of_below (S := fun _ => False) hb) (fun x => x) (fun _ _ x => x)

/-- the entity of an ID, and the answer's code -/
def getE (es : List Ent) (id : Int) : Ent := match idx es id with | some k => es.getD k Ent.zero | none => Ent.zero
def getC (es : List Ent) (id : Int) : Int := match idx es id with | some _ => 0 | none => 3

/-- what a look at an ID leaves -/
def Got (es : List Ent) (id : Int) (w : World) (r : Ending) (w' : World) : Prop :=
  r = .returned (.tuple #[.agg (getE es id).cells.toArray, .int .i64 (getC es id)]) ∧ Below w.heap.size w w'

set_option maxHeartbeats 1000000 in
theorem get_any (w : World) (B p : Nat) (v : Value) (es : List Ent) (given : Int) (ht : Tab w B p v es given) (hs : Sorted es) (hl : es.length ≤ 100000) (id : Int) :
    Calls Try.prog 15 #[.pointer (some ⟨p, 0, none⟩), .int .i64 id] w (Got es id w) := by
  obtain ⟨ao, cap, rfl, _, _⟩ := owns_form ht.own
  have HT := Lib.hid ht
  clear ht
  go_enter Try.func15, Try.ntmps15
  go_wp2_with fail
  refine (find_any _ B p _ es given (tab_below HT.out ((Below.refl _ _).alloc (Nat.le_refl _) _)) hs hl id).mono ?_
  rintro e w1 ⟨m, f, rfl, h1, h2, hb⟩
  have b1 : Below w.heap.size w w1 := ((Below.refl _ w).alloc (Nat.le_refl _) _).trans (hb.mono (by simp))
  have hN := there_below hb (there_new w _ 32 11 rfl) (by simp)
  have hc := (tab_below HT.out b1).c0
  have hown := Lib.hid (tab_below HT.out b1).own
  clear hb
  have HN := Lib.hid hN
  clear hN
  cases f with
  | false =>
    have h3 := h2 rfl
    have HG := Lib.hid (show getE es id = Ent.zero ∧ getC es id = 3 by simp [getE, getC, h3])
    clear h1 h2 h3
    go_wp2_with (refine store_ent rfl _ _ rfl _ _ Ent.zero rfl rfl HN.out ?_)
    refine bodyPost_ret (results_ent Try.results15 _ _ w.heap.size 0 Ent.zero rfl (World.rangeAt_setCells_same _ _ _ _ HN.out)) rfl ?_
    rw [Got, HG.out.1, HG.out.2]
    exact ⟨rfl, (Touch.setCells (S := fun _ => False) _ (.inr (Nat.le_refl _)) _ _ _ (Touch.of_below b1)).below (Nat.le_refl _) (fun _ h => h.elim)⟩
  | true =>
    have h3 := h1 rfl
    obtain ⟨e, he, _⟩ := idx_some h3
    have hm := idx_lt h3
    have HG := Lib.hid (show getE es id = e ∧ getC es id = 0 by simp [getE, getC, h3, List.getD_eq_getElem?_getD, he])
    obtain ⟨g, rfl, _⟩ := owns_some hown.out (by omega)
    have HR := Lib.hid (owns_range hown.out he)
    have HM := Lib.hid hm
    have hm1 : (m : Int) < (es.length : Int) := by omega
    clear h1 h2 h3 he
    go_wp2_with (first | (refine load_ent rfl _ rfl _ _ rfl e HR.out ?_) | (refine store_ent rfl _ _ rfl _ _ e rfl rfl HN.out ?_))
    refine bodyPost_ret (results_ent Try.results15 _ _ w.heap.size 0 e rfl (World.rangeAt_setCells_same _ _ _ _ HN.out)) rfl ?_
    rw [Got, HG.out.1, HG.out.2]
    exact ⟨rfl, (Touch.setCells (S := fun _ => False) _ (.inr (Nat.le_refl _)) _ _ _ (Touch.of_below b1)).below (Nat.le_refl _) (fun _ h => h.elim)⟩

set_option maxHeartbeats 1000000 in
theorem get_nil (w : World) (id : Int) :
    Calls Try.prog 15 #[.pointer none, .int .i64 id] w fun r w' => r = .returned (.tuple #[.agg Ent.zero.cells.toArray, .int .i64 3]) ∧ Below w.heap.size w w' := by
  go_enter Try.func15, Try.ntmps15
  go_wp2_with fail
  refine (find_nil _ id).mono ?_
  rintro e w1 ⟨rfl, rfl⟩
  have HN := Lib.hid (there_new w #[.int .i64 0, .int .i64 0, .int .i64 0, .int .i64 0, .int .i64 0, .int .i64 0, .int .i64 0, .int .i64 0, .int .i64 0, .int .i64 0, .int .i64 0] 32 11 rfl)
  go_wp2_with (refine store_ent rfl _ _ rfl _ _ Ent.zero rfl rfl HN.out ?_)
  refine bodyPost_ret (results_ent Try.results15 _ _ w.heap.size 0 Ent.zero rfl (World.rangeAt_setCells_same _ _ _ _ HN.out)) rfl ?_
  exact ⟨rfl, (Touch.setCells (S := fun _ => False) _ (.inr (Nat.le_refl _)) _ _ _ (Touch.of_below ((Below.refl _ w).alloc (Nat.le_refl _) _))).below (Nat.le_refl _) (fun _ h => h.elim)⟩

set_option maxHeartbeats 1000000 in
theorem rget_any (w : World) (B p : Nat) (v : Value) (es : List Ent) (given : Int) (ht : Tab w B p v es given) (hl : es.length ≤ 100000) (id : Int) :
    Calls Try.prog 22 #[.pointer (some ⟨p, 0, none⟩), .int .i64 id] w (Got es id w) := by
  obtain ⟨ao, cap, rfl, _, _⟩ := owns_form ht.own
  have HT := Lib.hid ht
  clear ht
  go_enter Try.func22, Try.ntmps22
  go_wp2_with fail
  refine (rfind_any _ B p _ es given (tab_below HT.out ((Below.refl _ _).alloc (Nat.le_refl _) _)) hl id).mono ?_
  rintro e w1 ⟨rfl, rfl⟩
  have b1 : Below w.heap.size w (w.alloc (.cells #[.int .i64 0, .int .i64 0, .int .i64 0, .int .i64 0, .int .i64 0, .int .i64 0, .int .i64 0, .int .i64 0, .int .i64 0, .int .i64 0, .int .i64 0] 32)) := (Below.refl _ w).alloc (Nat.le_refl _) _
  have HN := Lib.hid (there_new w #[.int .i64 0, .int .i64 0, .int .i64 0, .int .i64 0, .int .i64 0, .int .i64 0, .int .i64 0, .int .i64 0, .int .i64 0, .int .i64 0, .int .i64 0] 32 11 rfl)
  have hc := (tab_below HT.out b1).c0
  have hown := Lib.hid (tab_below HT.out b1).own
  cases hx : idx es id with
  | none =>
    have HG := Lib.hid (show getE es id = Ent.zero ∧ getC es id = 3 by simp [getE, getC, hx])
    rw [show idxI es id = -1 by simp [idxI, hx]]
    clear hx
    go_wp2_with (refine store_ent rfl _ _ rfl _ _ Ent.zero rfl rfl HN.out ?_)
    refine bodyPost_ret (results_ent Try.results22 _ _ w.heap.size 0 Ent.zero rfl (World.rangeAt_setCells_same _ _ _ _ HN.out)) rfl ?_
    rw [Got, HG.out.1, HG.out.2]
    exact ⟨rfl, (Touch.setCells (S := fun _ => False) _ (.inr (Nat.le_refl _)) _ _ _ (Touch.of_below b1)).below (Nat.le_refl _) (fun _ h => h.elim)⟩
  | some m =>
    obtain ⟨e, he, _⟩ := idx_some hx
    have hm := idx_lt hx
    have HG := Lib.hid (show getE es id = e ∧ getC es id = 0 by simp [getE, getC, hx, List.getD_eq_getElem?_getD, he])
    rw [show idxI es id = (m : Int) by simp [idxI, hx]]
    obtain ⟨g, rfl, _⟩ := owns_some hown.out (by omega)
    have HR := Lib.hid (owns_range hown.out he)
    have hm1 : (m : Int) < (es.length : Int) := by omega
    clear hx he
    go_wp2_with (first | (refine load_ent rfl _ rfl _ _ rfl e HR.out ?_) | (refine store_ent rfl _ _ rfl _ _ e rfl rfl HN.out ?_))
    refine bodyPost_ret (results_ent Try.results22 _ _ w.heap.size 0 e rfl (World.rangeAt_setCells_same _ _ _ _ HN.out)) rfl ?_
    rw [Got, HG.out.1, HG.out.2]
    exact ⟨rfl, (Touch.setCells (S := fun _ => False) _ (.inr (Nat.le_refl _)) _ _ _ (Touch.of_below b1)).below (Nat.le_refl _) (fun _ h => h.elim)⟩
end Go.Proofs.Ytgnkehjjeoolcaa
