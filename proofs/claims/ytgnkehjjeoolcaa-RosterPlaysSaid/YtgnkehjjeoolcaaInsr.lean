/- The contracts of the document's Insert, and of the program's where nothing is taken. -/
import Derived.Test.YtgnkehjjeoolcaaIns
namespace Go.Proofs.Ytgnkehjjeoolcaa
open Go.RowKit

set_option maxHeartbeats 1000000 in
theorem rinsert_ok (w : World) (B p : Nat) (v : Value) (es : List Ent) (given : Int) (ht : Tab w B p v es given) (e : Ent) (hl : es.length < 40) (hg : 0 ≤ given ∧ given < 2147483647) :
    Calls Try.prog 21 #[.pointer (some ⟨p, 0, none⟩), .agg e.cells.toArray] w (Inserted B p v es (given + 1) given e w) := by
  obtain ⟨i0, hi, hz0, hz1, hz2⟩ := info_parts info32
  obtain ⟨ao, cap, rfl, _, _⟩ := owns_form ht.own
  have hc0 := ht.c0
  have hc1 := ht.c1
  have hf0 := ht.f0
  have hf1 := ht.f1
  have he0 := e.c0
  have HT := Lib.hid ht
  have hpl : p < w.heap.size := World.block_lt_of_cell? w _ hc0
  clear ht
  obtain ⟨n, hn⟩ : ∃ n, n = es.length := ⟨_, rfl⟩
  have HN := Lib.hid hn
  rw [← hn] at hc0 hl ⊢
  clear hn
  go_enter Try.func21, Try.ntmps21
  go_wp2_with fail
  rw [Ent.withId_cells]
  obtain ⟨f, hf⟩ : ∃ f, f = e.withId given := ⟨_, rfl⟩
  have HF := Lib.hid hf
  rw [← hf]
  clear hf
  have hown : (w.alloc (.cells f.cells.toArray 32)).ownsRow B 32 11 (.slice ao n cap) n (cellsOf es) := by
    rw [HN.out]
    exact HT.out.own.alloc _
  have T0 : Touch w (w.alloc (.cells f.cells.toArray 32)) (fun k => k = p ∨ (Value.slice ao n cap).ownBlock = some k) :=
    (Touch.refl w _).alloc _
  have k0 : (w.alloc (.cells f.cells.toArray 32)).cell? ⟨p, 0, none⟩ = some (.slice ao n cap) := by
    rw [World.cell?_alloc_past _ _ _ hpl]; exact hc0
  have k1 : (w.alloc (.cells f.cells.toArray 32)).cell? ⟨p, 1, none⟩ = some (.int .i64 given) := by
    rw [World.cell?_alloc_past _ _ _ hpl]; exact hc1
  have g0 : (w.alloc (.cells f.cells.toArray 32)).frozen? ⟨p, 0, none⟩ = false := by
    rw [World.frozen?_alloc_past _ _ _ hpl]; exact hf0
  have g1 : (w.alloc (.cells f.cells.toArray 32)).frozen? ⟨p, 1, none⟩ = false := by
    rw [World.frozen?_alloc_past _ _ _ hpl]; exact hf1
  have hr : (w.alloc (.cells f.cells.toArray 32)).rangeAt w.heap.size 0 f.cells := fun j u hj => by
    rw [World.cell?_alloc_at _ _ _ _ (by simp), Nat.zero_add]; simpa using hj
  have hsz : w.heap.size < (w.alloc (.cells f.cells.toArray 32)).heap.size := by simp
  generalize (w.alloc (.cells f.cells.toArray 32)) = wy at hown T0 k0 k1 g0 g1 hr hsz ⊢
  have hne : (Value.slice ao n cap).ownBlock ≠ some p := (by rw [HN.out]; exact HT.out.ne)
  have r0 : wy.cell? ⟨w.heap.size, 0, none⟩ = some (.int .i64 f.id) := hr 0 _ rfl
  have r1 : wy.cell? ⟨w.heap.size, 1, none⟩ = some (.int .i64 f.owner) := hr 1 _ rfl
  have r2 : wy.cell? ⟨w.heap.size, 2, none⟩ = some (.int .i64 f.kind) := hr 2 _ rfl
  have r3 : wy.cell? ⟨w.heap.size, 3, none⟩ = some (.int .i64 f.ax) := hr 3 _ rfl
  have r4 : wy.cell? ⟨w.heap.size, 4, none⟩ = some (.int .i64 f.ay) := hr 4 _ rfl
  have r5 : wy.cell? ⟨w.heap.size, 5, none⟩ = some (.int .i64 f.hp) := hr 5 _ rfl
  have r6 : wy.cell? ⟨w.heap.size, 6, none⟩ = some (.int .i64 f.doing) := hr 6 _ rfl
  have r7 : wy.cell? ⟨w.heap.size, 7, none⟩ = some (.int .i64 f.gx) := hr 7 _ rfl
  have r8 : wy.cell? ⟨w.heap.size, 8, none⟩ = some (.int .i64 f.gy) := hr 8 _ rfl
  have r9 : wy.cell? ⟨w.heap.size, 9, none⟩ = some (.int .i64 f.target) := hr 9 _ rfl
  have r10 : wy.cell? ⟨w.heap.size, 10, none⟩ = some (.int .i64 f.load) := hr 10 _ rfl
  clear hc0 hc1 hf0 hf1 hr
  have hBy : B ≤ wy.heap.size := Nat.le_trans HT.out.sz (Nat.le_of_lt hsz)
  have hpy : p < wy.heap.size := by omega
  have hne' : some p ≠ (Value.slice ao n cap).ownBlock := fun e => hne e.symm
  have hnw : some w.heap.size ≠ (Value.slice ao n cap).ownBlock := fun e => by
    have := (HT.out.own.lt w.heap.size (by rw [← HN.out]; exact e.symm)).2; omega
  have K0 : Hid (∀ o, (wy.alloc o).drew.cell? ⟨p, 0, none⟩ = some (.slice ao n cap)) := fun o => by rw [World.cell?_drew, World.cell?_alloc_past _ _ _ hpy]; exact k0
  have G0 : Hid (∀ o, (wy.alloc o).drew.frozen? ⟨p, 0, none⟩ = false) := fun o => by rw [World.frozen?_drew, World.frozen?_alloc_past _ _ _ hpy]; exact g0
  have K1 : Hid (∀ o, (wy.alloc o).drew.cell? ⟨p, 1, none⟩ = some (.int .i64 given)) := fun o => by rw [World.cell?_drew, World.cell?_alloc_past _ _ _ hpy]; exact k1
  have G1 : Hid (∀ o, (wy.alloc o).drew.frozen? ⟨p, 1, none⟩ = false) := fun o => by rw [World.frozen?_drew, World.frozen?_alloc_past _ _ _ hpy]; exact g1
  have R0 : Hid (∀ o, (wy.alloc o).drew.cell? ⟨w.heap.size, 0, none⟩ = some (.int .i64 f.id)) := fun o => by rw [World.cell?_drew, World.cell?_alloc_past _ _ _ hsz]; exact r0
  go_region_law ((refine step_append_lies _ (by rfl) _ _ _ (by rfl) B 32 i0 _ 11 88 Try.underlying36 hi hz0 hz1 hz2 rfl (by omega) (.slice ao n cap) n (cellsOf es) (by rfl) ((hown.alloc _).drew) ⟨wy.heap.size, 0, none⟩ 1 1 f.cells (by rfl) (by rfl) (World.news_of_block (cs := f.cells.toArray) (t := 32) (fr := (0, 0)) (heap_alloc_new wy _)) f.one (by omega) (by unfold maxLen; omega) (by omega) (by simp; omega) (wy.heap.size + 1) (by simp) ?_; intro gg cap2 w1 hown1 hgrow hat hlt; have q0 := (hgrow.cell_far ⟨p, 0, none⟩ (by simp; omega) hne').trans (K0.out _); have q1 := (hgrow.frozen_far ⟨p, 0, none⟩ (by simp; omega) hne').trans (G0.out _); have q2 := (hgrow.cell_far ⟨w.heap.size, 0, none⟩ (by simp; omega) hnw).trans (R0.out _)))
  all_goals
    have q4 := (hgrow.cell_far ⟨p, 1, none⟩ (by simp; omega) hne').trans (K1.out _)
    have q5 := (hgrow.frozen_far ⟨p, 1, none⟩ (by simp; omega) hne').trans (G1.out _)
    have hgp : gg ≠ p := by
      rintro rfl
      rcases hat with h | h
      · exact hne h
      · omega
    have q6 : (w1.setCell ⟨p, 0, none⟩ (.slice (some ⟨gg, 0, none⟩) (n + 1) cap2)).cell? ⟨w.heap.size, 0, none⟩ = some (.int .i64 f.id) := by
      rw [World.cell?_setCell_other _ _ _ _ (fun e => by have := congrArg Addr.block e; simp at this; omega)]; exact q2
    have q7 : (w1.setCell ⟨p, 0, none⟩ (.slice (some ⟨gg, 0, none⟩) (n + 1) cap2)).cell? ⟨p, 1, none⟩ = some (.int .i64 given) := by
      rw [World.cell?_setCell_other _ _ _ _ (by simp)]; exact q4
    have q8 : (w1.setCell ⟨p, 0, none⟩ (.slice (some ⟨gg, 0, none⟩) (n + 1) cap2)).frozen? ⟨p, 1, none⟩ = false := by
      rw [World.frozen?_setCell]; exact q5
    have T1 := (((T0.alloc (.cells f.cells.toArray 32)).drew.grown (c := w1) (by exact hgrow) (fun k hk => .inl (.inr hk))).setCell ⟨p, 0, none⟩ (.slice (some ⟨gg, 0, none⟩) (n + 1) cap2) (.inl (.inl rfl))).setCell ⟨p, 1, none⟩ (.int .i64 (given + 1)) (.inl (.inl rfl))
    have M1 : Moved w (.slice ao n cap) (.slice (some ⟨gg, 0, none⟩) (n + 1) cap2) := by
      rcases hat with h | h
      · exact .inl h.symm
      · exact .inr ⟨gg, rfl, by omega⟩
    have B1 : Tab ((w1.setCell ⟨p, 0, none⟩ (.slice (some ⟨gg, 0, none⟩) (n + 1) cap2)).setCell ⟨p, 1, none⟩ (.int .i64 (given + 1))) B p (.slice (some ⟨gg, 0, none⟩) (n + 1) cap2) (es ++ [f]) (given + 1) := by
      refine ⟨?_, World.cell?_setCell_same _ _ _ q7, ?_, ?_, ?_, ?_, HT.out.ge, Nat.le_trans HT.out.sz T1.size⟩
      · rw [World.cell?_setCell_other _ _ _ _ (by simp)]; exact World.cell?_setCell_same _ _ _ q0
      · rw [World.frozen?_setCell, World.frozen?_setCell]; exact q1
      · rw [World.frozen?_setCell, World.frozen?_setCell]; exact q5
      · rw [cellsOf_append, List.length_append, ← HN.out]
        show World.ownsRow _ B 32 11 _ (n + 1) (cellsOf es ++ (f.cells ++ []))
        rw [List.append_nil]
        exact ownsRow_setCell_other (ownsRow_setCell_other hown1 (by simp [Value.ownBlock, hgp]) _) (by simp [Value.ownBlock, hgp]) _
      · simp [Value.ownBlock, hgp]
    have hT := Lib.hid T1
    have hM := Lib.hid M1
    have hB1 := Lib.hid B1
    clear T1 M1 B1 hown1 hgrow hat q0 q1 q2 q4 q5 hown T0 r0 r1 r2 r3 r4 r5 r6 r7 r8 r9 r10 k0 k1 g0 g1
    have q9 : ((w1.setCell ⟨p, 0, none⟩ (.slice (some ⟨gg, 0, none⟩) (n + 1) cap2)).setCell ⟨p, 1, none⟩ (.int .i64 (given + 1))).cell? ⟨w.heap.size, 0, none⟩ = some (.int .i64 f.id) := by
      rw [World.cell?_setCell_other _ _ _ _ (fun e => by have := congrArg Addr.block e; simp at this; omega)]; exact q6
    go_wp2_with fail
    go_ret2
    have e1 := HF.out
    subst e1
    exact ⟨_, rfl, hB1.out, hT.out, hM.out⟩

set_option maxHeartbeats 400000 in
theorem insert_nil (e : Ent) (w : World) :
    Calls Try.prog 14 #[.pointer none, .agg e.cells.toArray] w fun r w' => r = .returned (.tuple #[.int .i64 0, .int .i64 7]) ∧ Below w.heap.size w w' := by
  go_enter Try.func14, Try.ntmps14
  go_wp2_with fail
  go_ret2
  exact ⟨rfl, (Below.refl _ _).alloc (Nat.le_refl _) _⟩

set_option maxHeartbeats 400000 in
theorem insert_full (w : World) (B p : Nat) (v : Value) (es : List Ent) (given : Int) (ht : Tab w B p v es given) (e : Ent) (hg : 0 ≤ given ∧ given + 1 ≤ 2147483647) (h : 40 ≤ es.length ∨ given + 1 = 2147483647) :
    Calls Try.prog 14 #[.pointer (some ⟨p, 0, none⟩), .agg e.cells.toArray] w fun r w' => r = .returned (.tuple #[.int .i64 0, .int .i64 6]) ∧ Below w.heap.size w w' := by
  obtain ⟨ao, cap, rfl, h1, h2⟩ := owns_form ht.own
  unfold maxLen at h2
  have hc0 := ht.c0
  have hc1 := ht.c1
  have hpl : p < w.heap.size := World.block_lt_of_cell? w _ hc0
  clear ht
  obtain ⟨n, hn⟩ : ∃ n, n = es.length := ⟨_, rfl⟩
  rw [← hn] at h hc0 h1
  clear hn
  by_cases hl : 40 ≤ n
  · have hd : decide ((40 : Int) ≤ (n : Int)) = true := by simp; omega
    clear h
    go_enter Try.func14, Try.ntmps14
    go_wp2_with fail
    go_ret2
    exact ⟨rfl, (Below.refl _ _).alloc (Nat.le_refl _) _⟩
  · have hgg : given = 2147483646 := by omega
    subst hgg
    have hd : decide ((40 : Int) ≤ (n : Int)) = false := by simp; omega
    clear h
    go_enter Try.func14, Try.ntmps14
    go_wp2_with fail
    go_ret2
    exact ⟨rfl, (Below.refl _ _).alloc (Nat.le_refl _) _⟩

set_option maxHeartbeats 400000 in
theorem rinsert_full (w : World) (B p : Nat) (v : Value) (es : List Ent) (given : Int) (ht : Tab w B p v es given) (e : Ent) (hl : 40 ≤ es.length) :
    Calls Try.prog 21 #[.pointer (some ⟨p, 0, none⟩), .agg e.cells.toArray] w fun r w' => r = .returned (.tuple #[.int .i64 0, .int .i64 6]) ∧ Below w.heap.size w w' := by
  obtain ⟨ao, cap, rfl, h1, h2⟩ := owns_form ht.own
  unfold maxLen at h2
  have hc0 := ht.c0
  have hc1 := ht.c1
  have hpl : p < w.heap.size := World.block_lt_of_cell? w _ hc0
  clear ht
  obtain ⟨n, hn⟩ : ∃ n, n = es.length := ⟨_, rfl⟩
  rw [← hn] at hl hc0 h1
  clear hn
  have hd : decide ((40 : Int) ≤ (n : Int)) = true := by simp; omega
  go_enter Try.func21, Try.ntmps21
  go_wp2_with fail
  go_ret2
  exact ⟨rfl, (Below.refl _ _).alloc (Nat.le_refl _) _⟩
end Go.Proofs.Ytgnkehjjeoolcaa
