/- The contracts of Set, the program's and the document's. -/
import Derived.Test.YtgnkehjjeoolcaaGet
import Derived.StillTailTactics
namespace Go.Proofs.Ytgnkehjjeoolcaa
open Go.RowKit

/-- the list behind a Set, and its answer -/
def setL (es : List Ent) (e : Ent) : List Ent := match idx es e.id with | some k => es.set k e | none => es

/-- what a Set leaves -/
def WasSet (B p : Nat) (v : Value) (es : List Ent) (given : Int) (e : Ent) (w : World) (r : Ending) (w' : World) : Prop :=
  r = .returned (.int .i64 (getC es e.id)) ∧ Tab w' B p v (setL es e) given ∧ Touch w w' (fun k => v.ownBlock = some k)

/-- what a row of stores leaves of a list -/
def splice : List Value → Nat → List Value → List Value
  | xs, _, [] => xs
  | xs, o, v :: vs => splice (xs.set o v) (o + 1) vs

theorem splice_len : ∀ (vs xs : List Value) (o : Nat), (splice xs o vs).length = xs.length
  | [], _, _ => rfl
  | v :: vs, xs, o => by rw [splice, splice_len vs, List.length_set]

theorem splice_get : ∀ (vs xs : List Value) (o j : Nat), o + vs.length ≤ xs.length → (splice xs o vs)[j]? = if o ≤ j ∧ j < o + vs.length then vs[j - o]? else xs[j]?
  | [], xs, o, j, _ => by rw [splice, if_neg (by simp only [List.length_nil]; omega)]
  | v :: vs, xs, o, j, h => by
    simp only [List.length_cons] at h ⊢
    rw [splice, splice_get vs _ _ _ (by rw [List.length_set]; omega)]
    by_cases h1 : o + 1 ≤ j ∧ j < o + 1 + vs.length
    · rw [if_pos h1, if_pos (by omega)]
      obtain ⟨d, hd⟩ : ∃ d, j - o = d + 1 := ⟨j - o - 1, by omega⟩
      rw [hd, List.getElem?_cons_succ, show j - (o + 1) = d by omega]
    · rw [if_neg h1]
      by_cases h2 : j = o
      · subst h2
        rw [if_pos (by omega), Nat.sub_self, List.getElem?_cons_zero, List.getElem?_set_self (by omega)]
      · rw [if_neg (by omega), List.getElem?_set_ne (by omega)]

theorem owns_splice {B sz : Nat} {e : TypeId} {g cap n : Nat} : ∀ (vs xs : List Value) (o : Nat) (w : World), w.ownsRow B e sz (.slice (some ⟨g, 0, none⟩) n cap) n xs →
    (w.setCells g o vs).ownsRow B e sz (.slice (some ⟨g, 0, none⟩) n cap) n (splice xs o vs)
  | [], _, _, _, h => h
  | v :: vs, xs, o, w, h => by
    rw [World.setCells, splice]
    exact owns_splice vs _ (o + 1) _ (h.stored o v).1

theorem cellsOf_set (es : List Ent) (k : Nat) (e : Ent) (hk : k < es.length) : splice (cellsOf es) (k * 11) e.cells = cellsOf (es.set k e) := by
  apply List.ext_getElem?
  intro j
  rw [splice_get _ _ _ _ (by rw [cellsOf_len, Ent.len]; omega), Ent.len]
  rcases Nat.lt_or_ge j (es.length * 11) with hj | hj
  · have hq : j / 11 < es.length := by omega
    have hd : j = j / 11 * 11 + j % 11 := by omega
    have h1 := cellsOf_get es (j / 11) (j % 11) _ (List.getElem?_eq_getElem hq) (by omega)
    rw [← hd] at h1
    by_cases hjk : j / 11 = k
    · rw [if_pos (by omega)]
      have h2 : (es.set k e)[j / 11]? = some e := by rw [hjk, List.getElem?_set_self (by omega)]
      have h3 := cellsOf_get (es.set k e) (j / 11) (j % 11) e h2 (by omega)
      rw [← hd] at h3
      rw [h3]
      congr 1; omega
    · rw [if_neg (by omega), h1]
      have h2 : (es.set k e)[j / 11]? = some (es[j / 11]'hq) := by rw [List.getElem?_set_ne (fun h => hjk h.symm), List.getElem?_eq_getElem hq]
      have h3 := cellsOf_get (es.set k e) (j / 11) (j % 11) _ h2 (by omega)
      rw [← hd] at h3
      exact h3.symm
  · rw [if_neg (by omega), List.getElem?_eq_none (by rw [cellsOf_len]; omega), List.getElem?_eq_none (by rw [cellsOf_len, List.length_set]; omega)]

theorem owns_set {w : World} {B g cap : Nat} {es : List Ent} (h : w.ownsRow B 32 11 (.slice (some ⟨g, 0, none⟩) es.length cap) es.length (cellsOf es)) {k : Nat} (e : Ent) (hk : k < es.length) :
    (w.setCells g (k * 11) e.cells).ownsRow B 32 11 (.slice (some ⟨g, 0, none⟩) es.length cap) es.length (cellsOf (es.set k e)) := by
  rw [← cellsOf_set es k e hk]
  exact owns_splice _ _ _ _ h

theorem owns_there {w : World} {B g cap : Nat} {es : List Ent} (h : w.ownsRow B 32 11 (.slice (some ⟨g, 0, none⟩) es.length cap) es.length (cellsOf es)) {k : Nat} (hk : k < es.length) : w.there g (k * 11) 11 := fun j hj => by
  have hr := owns_range h (List.getElem?_eq_getElem hk)
  exact ⟨hr.isSome j (by rw [Ent.len]; exact hj), h.frozenAt _⟩

/-- a table whose entity was stored anew -/
theorem Tab.set {w : World} {B p g cap : Nat} {es : List Ent} {given : Int} (h : Tab w B p (.slice (some ⟨g, 0, none⟩) es.length cap) es given) {k : Nat} (e : Ent) (hk : k < es.length) :
    Tab (w.setCells g (k * 11) e.cells) B p (.slice (some ⟨g, 0, none⟩) es.length cap) (es.set k e) given := by
  have hgp : g ≠ p := fun x => h.ne (by rw [x]; rfl)
  have T := Touch.setCells (a := w) (S := fun k => k = g) g (.inl rfl) e.cells (k * 11) w (Touch.refl _ _)
  refine ⟨T.cell h.c0 (fun x => hgp x.symm), T.cell h.c1 (fun x => hgp x.symm), by rw [World.frozen?_setCells]; exact h.f0, by rw [World.frozen?_setCells]; exact h.f1, ?_, h.ne, h.ge, Nat.le_trans h.sz T.size⟩
  rw [List.length_set]
  exact owns_set h.own e hk

set_option maxHeartbeats 1000000 in
theorem set_any (w : World) (B p : Nat) (v : Value) (es : List Ent) (given : Int) (ht : Tab w B p v es given) (hs : Sorted es) (hl : es.length ≤ 100000) (e : Ent) :
    Calls Try.prog 17 #[.pointer (some ⟨p, 0, none⟩), .agg e.cells.toArray] w (WasSet B p v es given e w) := by
  obtain ⟨ao, cap, rfl, _, _⟩ := owns_form ht.own
  have HT := Lib.hid ht
  have h0 := e.c0
  clear ht
  go_enter Try.func17, Try.ntmps17
  go_wp2_with fail
  refine (find_any _ B p _ es given (tab_below HT.out ((Below.refl _ _).alloc (Nat.le_refl _) _)) hs hl e.id).mono ?_
  rintro r w1 ⟨m, f, rfl, h1, h2, hb⟩
  have b1 : Below w.heap.size w w1 := ((Below.refl _ w).alloc (Nat.le_refl _) _).trans (hb.mono (by simp))
  have HT1 := Lib.hid (tab_below HT.out b1)
  have hc := HT1.out.c0
  have hr : w1.rangeAt w.heap.size 0 e.cells := range_below hb (fun j u hj => by rw [World.cell?_alloc_at _ _ _ _ rfl, Nat.zero_add]; simpa using hj) (by simp)
  clear hb
  cases f with
  | false =>
    have h3 := h2 rfl
    have HG := Lib.hid (show setL es e = es ∧ getC es e.id = 3 by simp [setL, getC, h3])
    clear h1 h2 h3 hr
    go_wp2_with fail
    go_ret
    rw [WasSet, HG.out.1, HG.out.2]
    exact ⟨rfl, HT1.out, Touch.of_below b1⟩
  | true =>
    have h3 := h1 rfl
    have hm := idx_lt h3
    have HG := Lib.hid (show setL es e = es.set m e ∧ getC es e.id = 0 by simp [setL, getC, h3])
    obtain ⟨g, rfl, _⟩ := owns_some HT1.out.own (by omega)
    have hm1 : (m : Int) < (es.length : Int) := by omega
    have HM := Lib.hid hm
    have r0 : w1.cell? ⟨w.heap.size, 0, none⟩ = some (.int .i64 e.id) := hr 0 _ rfl
    have r1 : w1.cell? ⟨w.heap.size, 1, none⟩ = some (.int .i64 e.owner) := hr 1 _ rfl
    have r2 : w1.cell? ⟨w.heap.size, 2, none⟩ = some (.int .i64 e.kind) := hr 2 _ rfl
    have r3 : w1.cell? ⟨w.heap.size, 3, none⟩ = some (.int .i64 e.ax) := hr 3 _ rfl
    have r4 : w1.cell? ⟨w.heap.size, 4, none⟩ = some (.int .i64 e.ay) := hr 4 _ rfl
    have r5 : w1.cell? ⟨w.heap.size, 5, none⟩ = some (.int .i64 e.hp) := hr 5 _ rfl
    have r6 : w1.cell? ⟨w.heap.size, 6, none⟩ = some (.int .i64 e.doing) := hr 6 _ rfl
    have r7 : w1.cell? ⟨w.heap.size, 7, none⟩ = some (.int .i64 e.gx) := hr 7 _ rfl
    have r8 : w1.cell? ⟨w.heap.size, 8, none⟩ = some (.int .i64 e.gy) := hr 8 _ rfl
    have r9 : w1.cell? ⟨w.heap.size, 9, none⟩ = some (.int .i64 e.target) := hr 9 _ rfl
    have r10 : w1.cell? ⟨w.heap.size, 10, none⟩ = some (.int .i64 e.load) := hr 10 _ rfl
    clear h1 h2 h3 hr
    go_wp2_with fail
    go_still_tail 7, (by kernel_rfl)
    change wpList _ _ _ _ _ w1.drew
    have TH := Lib.hid (show w1.drew.there g (m * 11) 11 from owns_there HT1.out.own hm)
    have HW := Lib.hid (show Tab w1.drew B p (.slice (some ⟨g, 0, none⟩) es.length cap) es given from HT1.out.touch (S := fun _ => False) ((Touch.refl _ _).drew) (fun x => x) (fun _ _ x => x))
    have b2 : Below w.heap.size w w1.drew := b1.drew
    clear r0 r1 r2 r3 r4 r5 r6 r7 r8 r9 r10 hc b1
    generalize w1.drew = w2 at TH HW b2 ⊢
    go_wp2_with (refine store_ent rfl _ _ rfl _ _ e rfl rfl TH.out ?_)
    go_ret
    rw [WasSet, HG.out.1, HG.out.2]
    exact ⟨rfl, HW.out.set e hm, Touch.setCells (S := fun k => (Value.slice (some ⟨g, 0, none⟩) es.length cap).ownBlock = some k) g (.inl rfl) _ _ _ (Touch.of_below b2)⟩

set_option maxHeartbeats 400000 in
theorem set_nil (e : Ent) (w : World) :
    Calls Try.prog 17 #[.pointer none, .agg e.cells.toArray] w fun r w' => r = .returned (.int .i64 3) ∧ Below w.heap.size w w' := by
  have h0 := e.c0
  go_enter Try.func17, Try.ntmps17
  go_wp2_with fail
  refine (find_nil _ e.id).mono ?_
  rintro r w1 ⟨rfl, rfl⟩
  go_wp2_with fail
  go_ret
  exact ⟨rfl, (Below.refl _ _).alloc (Nat.le_refl _) _⟩

set_option maxHeartbeats 1000000 in
theorem rset_any (w : World) (B p : Nat) (v : Value) (es : List Ent) (given : Int) (ht : Tab w B p v es given) (hl : es.length ≤ 100000) (e : Ent) :
    Calls Try.prog 23 #[.pointer (some ⟨p, 0, none⟩), .agg e.cells.toArray] w (WasSet B p v es given e w) := by
  obtain ⟨ao, cap, rfl, _, _⟩ := owns_form ht.own
  have HT := Lib.hid ht
  have h0 := e.c0
  clear ht
  go_enter Try.func23, Try.ntmps23
  go_wp2_with fail
  refine (rfind_any _ B p _ es given (tab_below HT.out ((Below.refl _ _).alloc (Nat.le_refl _) _)) hl e.id).mono ?_
  rintro r w1 ⟨rfl, hw⟩
  have b1 : Below w.heap.size w w1 := by rw [← hw]; exact (Below.refl _ w).alloc (Nat.le_refl _) _
  have HT1 := Lib.hid (tab_below HT.out b1)
  have hc := HT1.out.c0
  have hr : w1.rangeAt w.heap.size 0 e.cells := by rw [← hw]; exact (fun j u hj => by rw [World.cell?_alloc_at _ _ _ _ rfl, Nat.zero_add]; simpa using hj)
  clear hw
  cases hx : idx es e.id with
  | none =>
    have HG := Lib.hid (show setL es e = es ∧ getC es e.id = 3 by simp [setL, getC, hx])
    rw [show idxI es e.id = -1 by simp [idxI, hx]]
    clear hx hr
    go_wp2_with fail
    go_ret
    rw [WasSet, HG.out.1, HG.out.2]
    exact ⟨rfl, HT1.out, Touch.of_below b1⟩
  | some m =>
    have hm := idx_lt hx
    have HG := Lib.hid (show setL es e = es.set m e ∧ getC es e.id = 0 by simp [setL, getC, hx])
    rw [show idxI es e.id = (m : Int) by simp [idxI, hx]]
    obtain ⟨g, rfl, _⟩ := owns_some HT1.out.own (by omega)
    have hm1 : (m : Int) < (es.length : Int) := by omega
    have r0 : w1.cell? ⟨w.heap.size, 0, none⟩ = some (.int .i64 e.id) := hr 0 _ rfl
    have r1 : w1.cell? ⟨w.heap.size, 1, none⟩ = some (.int .i64 e.owner) := hr 1 _ rfl
    have r2 : w1.cell? ⟨w.heap.size, 2, none⟩ = some (.int .i64 e.kind) := hr 2 _ rfl
    have r3 : w1.cell? ⟨w.heap.size, 3, none⟩ = some (.int .i64 e.ax) := hr 3 _ rfl
    have r4 : w1.cell? ⟨w.heap.size, 4, none⟩ = some (.int .i64 e.ay) := hr 4 _ rfl
    have r5 : w1.cell? ⟨w.heap.size, 5, none⟩ = some (.int .i64 e.hp) := hr 5 _ rfl
    have r6 : w1.cell? ⟨w.heap.size, 6, none⟩ = some (.int .i64 e.doing) := hr 6 _ rfl
    have r7 : w1.cell? ⟨w.heap.size, 7, none⟩ = some (.int .i64 e.gx) := hr 7 _ rfl
    have r8 : w1.cell? ⟨w.heap.size, 8, none⟩ = some (.int .i64 e.gy) := hr 8 _ rfl
    have r9 : w1.cell? ⟨w.heap.size, 9, none⟩ = some (.int .i64 e.target) := hr 9 _ rfl
    have r10 : w1.cell? ⟨w.heap.size, 10, none⟩ = some (.int .i64 e.load) := hr 10 _ rfl
    clear hx hr
    go_wp2_with fail
    go_still_tail 7, (by kernel_rfl)
    change wpList _ _ _ _ _ w1.drew
    have TH := Lib.hid (show w1.drew.there g (m * 11) 11 from owns_there HT1.out.own hm)
    have HW := Lib.hid (show Tab w1.drew B p (.slice (some ⟨g, 0, none⟩) es.length cap) es given from HT1.out.touch (S := fun _ => False) ((Touch.refl _ _).drew) (fun x => x) (fun _ _ x => x))
    have b2 : Below w.heap.size w w1.drew := b1.drew
    clear r0 r1 r2 r3 r4 r5 r6 r7 r8 r9 r10 hc b1
    generalize w1.drew = w2 at TH HW b2 ⊢
    go_wp2_with (refine store_ent rfl _ _ rfl _ _ e rfl rfl TH.out ?_)
    go_ret
    rw [WasSet, HG.out.1, HG.out.2]
    exact ⟨rfl, HW.out.set e hm, Touch.setCells (S := fun k => (Value.slice (some ⟨g, 0, none⟩) es.length cap).ownBlock = some k) g (.inl rfl) _ _ _ (Touch.of_below b2)⟩
end Go.Proofs.Ytgnkehjjeoolcaa
