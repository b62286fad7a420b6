/- The contracts of slices.Delete and Remove, the program's and the document's. -/
import Derived.Test.YtgnkehjjeoolcaaSet
namespace Go.Proofs.Ytgnkehjjeoolcaa
open Go.RowKit

theorem owns_shrink {w : World} {B sz : Nat} {e : TypeId} {g cap n m : Nat} {xs : List Value} (h : w.ownsRow B e sz (.slice (some ⟨g, 0, none⟩) n cap) n xs) (hm : m ≤ n) :
    w.ownsRow B e sz (.slice (some ⟨g, 0, none⟩) m cap) m (xs.take (m * sz)) := by
  obtain ⟨h1, h2⟩ := h
  refine ⟨by rw [List.length_take, h1, Nat.min_eq_left (Nat.mul_le_mul_right _ hm)], ?_⟩
  rcases h2 with ⟨h2, _⟩ | ⟨g', cap', cur, hv, hg, hh, hc1, hc2, hc3, hc4⟩
  · simp at h2
  · simp only [Value.slice.injEq, Option.some.injEq, Addr.mk.injEq, and_true, true_and] at hv
    obtain ⟨rfl, rfl⟩ := hv
    refine .inr ⟨g, cap, cur, rfl, hg, hh, by omega, hc2, hc3, ?_⟩
    rw [← hc4, List.take_take, Nat.min_eq_left (Nat.mul_le_mul_right _ hm)]

theorem owns_cap {w : World} {B e sz : Nat} {ao : Option Addr} {cap n : Nat} {xs : List Value} (h : w.ownsRow B e sz (.slice ao n cap) n xs) : n ≤ cap ∧ cap ≤ maxLen := by
  rcases h.2 with ⟨h2, _⟩ | ⟨g', cap', cur, hv, hg, hh, hc1, hc2, hc3, hc4⟩
  · simp only [Value.slice.injEq] at h2
    omega
  · simp only [Value.slice.injEq] at hv
    omega

theorem owns_spare {w : World} {B : Nat} {g cap n : Nat} {xs : List Value} (h : w.ownsRow B 32 11 (.slice (some ⟨g, 0, none⟩) n cap) n xs) {k : Nat} (hk : k < cap) : w.there g (k * 11) 11 := by
  intro j hj
  refine ⟨?_, h.frozenAt _⟩
  rcases h.2 with ⟨h2, _⟩ | ⟨g', cap', cur, hv, hg, hh, hc1, hc2, hc3, hc4⟩
  · simp at h2
  · simp only [Value.slice.injEq, Option.some.injEq, Addr.mk.injEq, and_true, true_and] at hv
    obtain ⟨rfl, rfl⟩ := hv
    rw [cell_of_row w g _ cur 32 _ hh, Array.getElem?_eq_getElem (by omega)]
    rfl

theorem splice_out : ∀ (vs xs : List Value) (o : Nat), xs.length ≤ o → splice xs o vs = xs
  | [], _, _, _ => rfl
  | v :: vs, xs, o, h => by rw [splice, List.set_eq_of_length_le h, splice_out vs xs (o + 1) (by omega)]

theorem cellsOf_take (es : List Ent) : ∀ (k : Nat), (cellsOf es).take (k * 11) = cellsOf (es.take k) := by
  induction es with
  | nil => intro k; simp [cellsOf]
  | cons e es ih =>
    intro k
    cases k with
    | zero => simp [cellsOf]
    | succ k =>
      show (e.cells ++ cellsOf es).take ((k + 1) * 11) = e.cells ++ cellsOf (es.take k)
      rw [List.take_append, Ent.len, List.take_of_length_le (by rw [Ent.len]; omega), ← ih k]
      congr 2
      omega

theorem cellsOf_drop (es : List Ent) : ∀ (k : Nat), (cellsOf es).drop (k * 11) = cellsOf (es.drop k) := by
  induction es with
  | nil => intro k; simp [cellsOf]
  | cons e es ih =>
    intro k
    cases k with
    | zero => simp
    | succ k =>
      show (e.cells ++ cellsOf es).drop ((k + 1) * 11) = cellsOf (es.drop k)
      rw [List.drop_append, Ent.len, List.drop_of_length_le (by rw [Ent.len]; omega), List.nil_append, ← ih k]
      congr 1
      omega

theorem clear_run (w : World) (ty : TypeId) (g o c : Nat) (ht : w.there g o 11) :
    (Builtin.clear_ #[36] ty #[.slice (some ⟨g, o, none⟩) 1 c]).run Try.prog w = .ok (.tuple #[]) (w.setCells g o Ent.zero.cells) := by
  have hs := run_storeCells_cells (P := Try.prog) g o Ent.zero.cells 0 w (fun j hj => by simpa using (ht j (by simpa [Ent.len] using hj)).1) (fun j hj => by simpa using (ht j (by simpa [Ent.len] using hj)).2) Ent.zero.one
  simp only [Nat.add_zero] at hs
  obtain ⟨i0, hi, hz0, hz1, hz2⟩ := info_parts info32
  have hz : (Builtin.zeroCells (Value.agg Ent.zero.cells.toArray).cells 1).toList = Ent.zero.cells := by kernel_rfl
  simp [Builtin.clear_, Sem.run_bind, run_underlying Try.underlying36 w, zeroValue, typeInfo, hi, hz0, hz, hs]

/-- 'clear' of one entity -/
theorem clear_one {ops : Array Oper} {rest : List Oper} {op : Oper} {a : Act} {w : World} {Q : Exit → Act → World → Prop} (hgd : op.guard = none) (x : Operand)
    (ho : op.op = Op.call { callee := Callee.builtin Builtin.clear, args := #[x], argTypes := #[36] })
    (g o c : Nat) (hx : a.eval x = .slice (some ⟨g, o, none⟩) 1 c) (ht : w.there g o 11)
    (h : wpList Try.prog ops Q rest (a.put op.dst (.tuple #[])) (w.setCells g o Ent.zero.cells)) : wpList Try.prog ops Q (op :: rest) a w := by
  refine wpList_plain hgd fun K hK => ?_
  unfold Oper.wp
  simp [execOp, ho, resolve, invoke, builtin, hx, clear_run w op.type g o c ht, Result.andThen]
  exact hK _ _ h

/-- what a deletion leaves -/
def Deleted (B g cap : Nat) (es : List Ent) (i : Nat) (w : World) (r : Ending) (w' : World) : Prop :=
  r = .returned (.slice (some ⟨g, 0, none⟩) (es.length - 1) cap) ∧ w'.ownsRow B 32 11 (.slice (some ⟨g, 0, none⟩) (es.length - 1) cap) (es.length - 1) (cellsOf (es.eraseIdx i)) ∧ Touch w w' (fun k => k = g)

set_option maxHeartbeats 1000000 in
theorem delete_any (w : World) (B g cap : Nat) (es : List Ent) (n i : Nat) (hn : es.length = n) (hown : w.ownsRow B 32 11 (.slice (some ⟨g, 0, none⟩) n cap) n (cellsOf es)) (hi : i < n) (hl : n ≤ 100000) :
    Calls Try.prog 30 #[.slice (some ⟨g, 0, none⟩) n cap, .int .i64 i, .int .i64 ((i : Int) + 1)] w (Deleted B g cap es i w) := by
  obtain ⟨i0, hi0, hz0, hz1, hz2⟩ := info_parts info32
  have HN := Lib.hid hn
  obtain ⟨hnc, hcm⟩ := owns_cap hown
  unfold maxLen at hcm
  have HO := Lib.hid hown
  clear hown hn
  have hic : i ≤ cap := by omega
  have hin : i ≤ n := by omega
  have hp0 : (0 : Int) ≤ (i : Int) + 1 := by omega
  have hp1 : (i : Int) + 1 ≤ (n : Int) := by omega
  have hp2 : ((i : Int) + 1).toNat = i + 1 := by omega
  have hp3 : i + 1 ≤ n := by omega
  have hp4 : i + 1 ≤ cap := by omega
  go_enter Try.func30, Try.ntmps30
  go_wp2_with fail
  go_still_tail 6, (by kernel_rfl)
  change wpList _ _ _ _ _ w.drew
  have HD := Lib.hid (show w.drew.ownsRow B 32 11 (.slice (some ⟨g, 0, none⟩) n cap) n (cellsOf es) from HO.out.drew)
  have T0 : Touch w w.drew (fun k => k = g) := (Touch.refl _ _).drew
  generalize w.drew = w1 at HD T0 ⊢
  have hxl : (cellsOf (es.drop (i + 1))).length = (n - (i + 1)) * 11 := by rw [cellsOf_len, List.length_drop, HN.out]
  have hnews : ∀ ad, (if cap = i + 1 then some (⟨g, 0, none⟩ : Addr) else some ⟨g, (i + 1) * 11, none⟩) = some ad → ∀ (j : Nat) (u : Value), (cellsOf (es.drop (i + 1)))[j]? = some u → w1.cell? (ad.add j) = some u := by
    intro ad had j u hj
    have hjl := (List.getElem?_eq_some_iff.1 hj).1
    rw [hxl] at hjl
    rw [if_neg (by omega)] at had
    simp only [Option.some.injEq] at had
    subst had
    rw [Addr.add_mid, HD.out.cellAt _ (by omega), ← hj, ← cellsOf_drop, List.getElem?_drop]
  have hnone : (if cap = i + 1 then some (⟨g, 0, none⟩ : Addr) else some ⟨g, (i + 1) * 11, none⟩) = none → n - (i + 1) = 0 ∧ cap - (i + 1) = 0 := by
    intro h; split at h <;> simp at h
  generalize (if cap = i + 1 then some (⟨g, 0, none⟩ : Addr) else some ⟨g, (i + 1) * 11, none⟩) = A at hnews hnone ⊢
  have HX := Lib.hid hxl
  have HNW := Lib.hid hnews
  have HNN := Lib.hid hnone
  clear hxl hnews hnone
  have hshr := Lib.hid (owns_shrink HD.out hin)
  rw [cellsOf_take] at hshr
  have hroom : i + (n - (i + 1)) ≤ cap := by omega
  go_wp2_with (at_builtin; refine wpList_append_fits_any w1 rfl _ _ 36 rfl B 32 i0 11 Try.underlying36 hi0 hz1 g i cap (cellsOf (es.take i)) rfl hshr.out A (n - (i + 1)) (cap - (i + 1)) (cellsOf (es.drop (i + 1))) rfl HX.out HNN.out HNW.out (cellsOf_one _) hroom ?_)
  intro w2 hown2 hgr2
  have hlen : i + (n - (i + 1)) = n - 1 := by omega
  rw [hlen] at hown2 ⊢
  have hcat : cellsOf (es.take i) ++ cellsOf (es.drop (i + 1)) = cellsOf (es.eraseIdx i) := by rw [← cellsOf_append, List.eraseIdx_eq_take_drop_succ]
  rw [hcat] at hown2
  have T1 : Touch w w2 (fun k => k = g) := T0.grown hgr2 (fun k hk => by simp only [Option.some.injEq] at hk; exact .inl hk.symm)
  have TH := Lib.hid (owns_spare hown2 (k := n - 1) (by omega))
  have HO2 := Lib.hid hown2
  clear hgr2 hown2 T0 hcat hlen hroom
  obtain ⟨q, rfl⟩ : ∃ q, n = q + 1 := ⟨n - 1, by omega⟩
  rw [Nat.add_sub_cancel] at TH HO2 ⊢
  clear hp0 hp1 hp2 hp3 hp4 hin hic
  go_wp2_with (refine clear_one rfl _ rfl g (q * 11) (cap - q) rfl TH.out ?_)
  refine bodyPost_ret (v := .slice (some ⟨g, 0, none⟩) q cap) (by simp [results, Try.results30, go_sem]) rfl ?_
  have e1 : es.length - 1 = q := by rw [HN.out]; rfl
  rw [Deleted, e1]
  refine ⟨rfl, ?_, Touch.setCells (S := fun k => k = g) g (.inl rfl) _ _ _ T1⟩
  have := owns_splice Ent.zero.cells _ (q * 11) _ HO2.out
  rw [splice_out _ _ _ (by rw [HO2.out.1]; exact Nat.le_refl _)] at this
  exact this

/-- the list behind a Remove -/
def remL (es : List Ent) (id : Int) : List Ent := match idx es id with | some k => es.eraseIdx k | none => es

/-- what a Remove leaves -/
def Removed (B p : Nat) (v : Value) (es : List Ent) (given : Int) (id : Int) (w : World) (r : Ending) (w' : World) : Prop :=
  ∃ v', r = .returned (.int .i64 (getC es id)) ∧ Tab w' B p v' (remL es id) given ∧ Touch w w' (fun k => k = p ∨ v.ownBlock = some k) ∧ (v'.ownBlock = v.ownBlock ∨ ∃ g, v'.ownBlock = some g ∧ w.heap.size ≤ g)

set_option maxHeartbeats 1000000 in
theorem remove_any (w : World) (B p : Nat) (v : Value) (es : List Ent) (given : Int) (ht : Tab w B p v es given) (hs : Sorted es) (hl : es.length ≤ 100000) (id : Int) :
    Calls Try.prog 18 #[.pointer (some ⟨p, 0, none⟩), .int .i64 id] w (Removed B p v es given id w) := by
  obtain ⟨ao, cap, rfl, _, _⟩ := owns_form ht.own
  have HT := Lib.hid ht
  clear ht
  go_enter Try.func18, Try.ntmps18
  go_wp2_with fail
  refine (find_any w B p _ es given HT.out hs hl id).mono ?_
  rintro r w1 ⟨m, f, rfl, h1, h2, b1⟩
  have HT1 := Lib.hid (tab_below HT.out b1)
  have hc := HT1.out.c0
  cases f with
  | false =>
    have h3 := h2 rfl
    have HG := Lib.hid (show remL es id = es ∧ getC es id = 3 by simp [remL, getC, h3])
    clear h1 h2 h3
    go_wp2_with fail
    go_ret
    rw [Removed, HG.out.1, HG.out.2]
    exact ⟨_, rfl, HT1.out, Touch.of_below b1, .inl rfl⟩
  | true =>
    have h3 := h1 rfl
    have hm := idx_lt h3
    have HG := Lib.hid (show remL es id = es.eraseIdx m ∧ getC es id = 0 by simp [remL, getC, h3])
    obtain ⟨g, rfl, _⟩ := owns_some HT1.out.own (by omega)
    obtain ⟨n, hn⟩ : ∃ n, es.length = n := ⟨_, rfl⟩
    have HN := Lib.hid hn
    rw [hn] at hc hm hl
    clear h1 h2 h3 hn
    go_wp2_with fail
    refine (delete_any w1 B g cap es n m HN.out (by rw [← HN.out]; exact HT1.out.own) hm hl).mono ?_
    rintro r w2 ⟨rfl, hown, hT⟩
    have hgp : g ≠ p := fun x => HT1.out.ne (by rw [x]; rfl)
    have k0 := hT.cell hc (fun x => hgp x.symm)
    have k1 := hT.cell HT1.out.c1 (fun x => hgp x.symm)
    have f0 := (hT.frozen (World.block_lt_of_cell? _ _ hc) (fun x => hgp x.symm)).trans HT1.out.f0
    have f1 := (hT.frozen (World.block_lt_of_cell? _ _ HT1.out.c1) (fun x => hgp x.symm)).trans HT1.out.f1
    have HO := Lib.hid hown
    have HK := Lib.hid k1
    have HF := Lib.hid f1
    have T2 : Touch w w2 (fun k => k = p ∨ (Value.slice (some ⟨g, 0, none⟩) es.length cap).ownBlock = some k) :=
      (Touch.of_below b1).then hT (fun i _ hi => .inr (by rw [hi]; rfl))
    clear hown k1 f1 hT hc b1
    go_wp2_with fail
    go_ret
    rw [Removed, HG.out.1, HG.out.2]
    have hlen : (es.eraseIdx m).length = es.length - 1 := by rw [List.length_eraseIdx, if_pos (by rw [HN.out]; exact hm)]
    refine ⟨_, rfl, ⟨World.cell?_setCell_same _ _ _ k0, ?_, ?_, ?_, ?_, ?_, HT1.out.ge, ?_⟩, T2.setCell _ _ (.inl (.inl rfl)), .inl rfl⟩
    · rw [World.cell?_setCell_other _ _ _ _ (by simp)]; exact HK.out
    · rw [World.frozen?_setCell]; exact f0
    · rw [World.frozen?_setCell]; exact HF.out
    · rw [hlen]
      exact ownsRow_setCell_other HO.out (by simp [Value.ownBlock, hgp]) _
    · simp [Value.ownBlock, hgp]
    · exact Nat.le_trans HT.out.sz (Nat.le_trans T2.size (by simp))

set_option maxHeartbeats 400000 in
theorem remove_nil (id : Int) (w : World) :
    Calls Try.prog 18 #[.pointer none, .int .i64 id] w fun r w' => r = .returned (.int .i64 3) ∧ w = w' := by
  go_enter Try.func18, Try.ntmps18
  go_wp2_with fail
  refine (find_nil _ id).mono ?_
  rintro r w1 ⟨rfl, rfl⟩
  go_wp2_with fail
  go_ret
  exact ⟨rfl, rfl⟩

theorem owns_base {w : World} {B B' e sz : Nat} {v : Value} {n : Nat} {xs : List Value} (h : w.ownsRow B e sz v n xs) (hB : B' ≤ B) : w.ownsRow B' e sz v n xs := by
  obtain ⟨h1, h2⟩ := h
  refine ⟨h1, ?_⟩
  rcases h2 with h2 | ⟨g, cap, cur, hv, hg, r⟩
  · exact .inl h2
  · exact .inr ⟨g, cap, cur, hv, Nat.le_trans hB hg, r⟩

theorem owns_ge {w : World} {B e sz : Nat} {v : Value} {n : Nat} {xs : List Value} (h : w.ownsRow B e sz v n xs) : v.ownBlock = none ∨ ∃ g, v.ownBlock = some g ∧ B ≤ g := by
  rcases h.2 with ⟨rfl, _⟩ | ⟨g, cap, cur, rfl, hg, _⟩
  · exact .inl rfl
  · exact .inr ⟨g, rfl, hg⟩

set_option maxHeartbeats 1000000 in
theorem rremove_any (w : World) (B p : Nat) (v : Value) (es : List Ent) (given : Int) (ht : Tab w B p v es given) (hl : es.length ≤ 100000) (id : Int) :
    Calls Try.prog 24 #[.pointer (some ⟨p, 0, none⟩), .int .i64 id] w fun r w' => ∃ v', r = .returned (.int .i64 (getC es id)) ∧ Tab w' B p v' (remL es id) given ∧ Touch w w' (fun k => k = p) ∧ (v'.ownBlock = v.ownBlock ∨ v'.ownBlock = none ∨ ∃ g, v'.ownBlock = some g ∧ w.heap.size ≤ g) := by
  obtain ⟨i0, hi0, hz0, hz1, hz2⟩ := info_parts info32
  obtain ⟨ao, cap, rfl, hnc, hcm⟩ := owns_form ht.own
  unfold maxLen at hcm
  have HT := Lib.hid ht
  have hc := ht.c0
  clear ht
  go_enter Try.func24, Try.ntmps24
  go_wp2_with fail
  refine (rfind_any w B p _ es given HT.out hl id).mono ?_
  rintro r w1 ⟨rfl, rfl⟩
  cases hx : idx es id with
  | none =>
    have HG := Lib.hid (show remL es id = es ∧ getC es id = 3 by simp [remL, getC, hx])
    rw [show idxI es id = -1 by simp [idxI, hx]]
    clear hx
    go_wp2_with fail
    go_ret
    rw [HG.out.1, HG.out.2]
    exact ⟨_, rfl, HT.out, Touch.refl _ _, .inl rfl⟩
  | some m =>
    have hm := idx_lt hx
    have HG := Lib.hid (show remL es id = es.eraseIdx m ∧ getC es id = 0 by simp [remL, getC, hx])
    rw [show idxI es id = (m : Int) by simp [idxI, hx]]
    obtain ⟨g, rfl, _⟩ := owns_some HT.out.own (by omega)
    have hpl : p < w.heap.size := World.block_lt_of_cell? w _ hc
    have hgl : g < w.heap.size := (HT.out.own.lt g rfl).2
    have HO0 := Lib.hid HT.out.own
    obtain ⟨n, hn⟩ : ∃ n, es.length = n := ⟨_, rfl⟩
    have HN := Lib.hid hn
    rw [hn] at hc hm hl hnc HO0
    have hxl : (cellsOf (es.drop (m + 1))).length = (n - (m + 1)) * 11 := by rw [cellsOf_len, List.length_drop, hn]
    have hyl : (cellsOf (es.take m)).length = m * 11 := by rw [cellsOf_len, List.length_take, hn, Nat.min_eq_left (by omega)]
    have HX := Lib.hid hxl
    have HY := Lib.hid hyl
    clear hx hn hxl hyl
    have hb2 : (0 + m) * 88 ≤ 140737488355328 := by omega
    have hb1 : 0 + m ≤ maxLen := by unfold maxLen; omega
    have hnw : Hid (∀ (j : Nat) (u : Value), (cellsOf (es.take m))[j]? = some u → w.cell? ((⟨g, 0, none⟩ : Addr).add j) = some u) := fun j u hj => by
      have hjl := (List.getElem?_eq_some_iff.1 hj).1
      rw [HY.out] at hjl
      rw [Addr.add_mid, Nat.zero_add, HO0.out.cellAt _ (by omega), ← hj, ← cellsOf_take, List.getElem?_take, if_pos (by omega)]
    have hm0 : m ≤ n := by omega
    have hmc : m ≤ cap := by omega
    go_wp2_with (at_builtin; refine wpList_append_own w rfl _ _ 36 rfl w.heap.size 32 i0 (.agg Ent.zero.cells.toArray) 11 88 Try.underlying36 hi0 hz0 hz1 hz2 rfl (by decide) (.slice none 0 0) 0 [] rfl (World.ownsRow_nil _ _ _ _) ⟨g, 0, none⟩ m cap (cellsOf (es.take m)) rfl HY.out hnw.out (cellsOf_one _) hb1 hb2 (Nat.le_refl _) ?_)
    intro v1 w1 hown1 hgr1 hnil
    have T1 : Touch w w1 (fun _ => False) := (Touch.refl w _).grown hgr1 (fun k hk => by simp [Value.ownBlock] at hk)
    have HT1 := Lib.hid (HT.out.touch T1 (fun x => x) (fun _ _ x => x))
    have hc1 : w1.cell? ⟨p, 0, none⟩ = some (.slice (some ⟨g, 0, none⟩) n cap) := T1.cell hc (fun x => x)
    have hc2 := HT1.out.c1
    have hf1 := HT1.out.f0
    have HO1 : Hid (w1.ownsRow B 32 11 (.slice (some ⟨g, 0, none⟩) n cap) n (cellsOf es)) := T1.owns HO0.out (fun _ _ x => x)
    have hnews : ∀ ad, (if cap = m + 1 then some (⟨g, 0, none⟩ : Addr) else some ⟨g, (m + 1) * 11, none⟩) = some ad → ∀ (j : Nat) (u : Value), (cellsOf (es.drop (m + 1)))[j]? = some u → w1.cell? (ad.add j) = some u := by
      intro ad had j u hj
      have hjl := (List.getElem?_eq_some_iff.1 hj).1
      rw [HX.out] at hjl
      rw [if_neg (by omega)] at had
      simp only [Option.some.injEq] at had
      subst had
      rw [Addr.add_mid, HO1.out.cellAt _ (by omega), ← hj, ← cellsOf_drop, List.getElem?_drop]
    obtain ⟨ad, had⟩ : ∃ ad, (if cap = m + 1 then some (⟨g, 0, none⟩ : Addr) else some ⟨g, (m + 1) * 11, none⟩) = some ad := by
      split <;> exact ⟨_, rfl⟩
    have HNW := Lib.hid (hnews ad had)
    have HAD := Lib.hid had
    have HOWN := Lib.hid hown1
    have hb3 : (m + (n - (m + 1))) * 88 ≤ 140737488355328 := by omega
    have hb4 : m + (n - (m + 1)) ≤ maxLen := by unfold maxLen; omega
    have hsz : w.heap.size ≤ w1.heap.size := T1.size
    have hp1 : (m : Int) + 1 ≤ (n : Int) := by omega
    clear hnews had hown1 hgr1 hnil hc
    go_wp2_with (at_builtin; rw [HAD.out]; refine wpList_append_own w1 rfl _ _ 36 rfl w.heap.size 32 i0 (.agg Ent.zero.cells.toArray) 11 88 Try.underlying36 hi0 hz0 hz1 hz2 rfl (by decide) v1 m (cellsOf (es.take m)) rfl HOWN.out ad (n - (m + 1)) (cap - (m + 1)) (cellsOf (es.drop (m + 1))) rfl HX.out HNW.out (cellsOf_one _) hb4 hb3 hsz ?_)
    intro v2 w2 hown2 hgr2 _
    have T2 : Touch w w2 (fun _ => False) := T1.grown hgr2 (fun k hk => .inr (by
      rcases owns_ge HOWN.out with h | ⟨g1, h, h2⟩
      · rw [h] at hk; cases hk
      · rw [h] at hk; simp only [Option.some.injEq] at hk; omega))
    have HT2 := Lib.hid (HT.out.touch T2 (fun x => x) (fun _ _ x => x))
    have hc3 : w2.cell? ⟨p, 0, none⟩ = some (.slice (some ⟨g, 0, none⟩) n cap) := by
      have := HT2.out.c0; rw [HN.out] at this; exact this
    have hf2 := HT2.out.f0
    have hcat : cellsOf (es.take m) ++ cellsOf (es.drop (m + 1)) = cellsOf (es.eraseIdx m) := by rw [← cellsOf_append, List.eraseIdx_eq_take_drop_succ]
    have hlen : (es.eraseIdx m).length = m + (n - (m + 1)) := by rw [List.length_eraseIdx, if_pos (by rw [HN.out]; exact hm), HN.out]; omega
    rw [hcat, ← hlen] at hown2
    have HLEN := Lib.hid hlen
    obtain ⟨ao2, cap2, rfl, _, _⟩ := owns_form hown2
    have HO2 := Lib.hid hown2
    have T3 := Lib.hid T2
    clear hown2 hgr2 T1 T2 hcat hlen hc1 hf1 hc2
    go_wp2_with fail
    go_ret
    rw [HG.out.1, HG.out.2]
    have hge := owns_ge HO2.out
    have hne : (Value.slice ao2 (es.eraseIdx m).length cap2).ownBlock ≠ some p := by
      rcases hge with h | ⟨g1, h, h2⟩
      · rw [h]; simp
      · rw [h]; simp; omega
    refine ⟨_, rfl, ⟨World.cell?_setCell_same _ _ _ hc3, ?_, ?_, ?_, ?_, hne, HT.out.ge, ?_⟩, (T3.out.mono (fun _ x => x.elim)).setCell _ _ (.inl rfl), .inr hge⟩
    · rw [World.cell?_setCell_other _ _ _ _ (by simp)]; exact HT2.out.c1
    · rw [World.frozen?_setCell]; exact hf2
    · rw [World.frozen?_setCell]; exact HT2.out.f1
    · exact ownsRow_setCell_other (owns_base HO2.out HT.out.sz) hne _
    · exact Nat.le_trans HT2.out.sz (by simp)
end Go.Proofs.Ytgnkehjjeoolcaa
