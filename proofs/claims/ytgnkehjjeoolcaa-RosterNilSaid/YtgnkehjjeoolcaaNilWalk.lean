/- The walk of RosterNil: for every entity and every ID the call returns true and turns nothing that was there. -/
import Derived.Test.YtgnkehjjeoolcaaFullWalk
import Derived.Test.YtgnkehjjeoolcaaNeverWalk
namespace Go.Proofs.Ytgnkehjjeoolcaa
open Go.RowKit

set_option maxRecDepth 20000 in
set_option maxHeartbeats 4000000 in
theorem nil_walk (e : Ent) (id : Int) (w : World) :
    Calls Try.prog 4 #[.agg e.cells.toArray, .int .i64 id] w fun r w' => r = .returned (.bool true) ∧ Below w.heap.size w w' := by
  obtain ⟨w0, hw0⟩ : ∃ w0, w.alloc (.cells e.cells.toArray 32) = w0 := ⟨_, rfl⟩
  have hsz : w0.heap.size = w.heap.size + 1 := by rw [← hw0]; simp
  have hr0 : w0.rangeAt w.heap.size 0 e.cells := by rw [← hw0]; exact fun j u hj => by rw [World.cell?_alloc_at _ _ _ _ rfl, Nat.zero_add]; simpa using hj
  have b00 : Below w.heap.size w w0 := by rw [← hw0]; exact (Below.refl _ _).alloc (Nat.le_refl _) _
  have HR0 := Lib.hid hr0
  have HB0 := Lib.hid b00
  have HSZ := Lib.hid hsz
  have HW0 := Lib.hid hw0
  clear hr0 b00 hsz hw0
  go_enter Try.func4, Try.ntmps4
  go_wp2_with fail
  rw [HW0.out]
  refine (awake_any w0).mono ?_
  rintro r w1 ⟨rfl, b1⟩
  have HR1 := Lib.hid (range_below b1 HR0.out (by rw [HSZ.out]; omega))
  go_wp2_with (refine load_ent rfl (.tmp 2) rfl _ _ rfl e HR1.out ?_)
  refine (insert_nil e w1).mono ?_
  rintro r w2 ⟨rfl, b2⟩
  have B2 := Lib.hid (b1.trans (b2.mono b1.size))
  have HR2 := Lib.hid (range_below B2.out HR0.out (by rw [HSZ.out]; omega))
  clear b1 b2 HR1
  go_wp2_with fail
  refine (get_nil w2 id).mono ?_
  rintro r w3 ⟨rfl, b3⟩
  have B3 := Lib.hid (B2.out.trans (b3.mono B2.out.size))
  clear b3 HR2 B2
  have TZ := Lib.hid (there_new w3 #[.int .i64 0, .int .i64 0, .int .i64 0, .int .i64 0, .int .i64 0, .int .i64 0, .int .i64 0, .int .i64 0, .int .i64 0, .int .i64 0, .int .i64 0] 32 11 rfl)
  obtain ⟨wz, hwz⟩ : ∃ wz, ((w3.alloc (.cells #[.int .i64 0, .int .i64 0, .int .i64 0, .int .i64 0, .int .i64 0, .int .i64 0, .int .i64 0, .int .i64 0, .int .i64 0, .int .i64 0, .int .i64 0] 32)).setCells w3.heap.size 0 Ent.zero.cells) = wz := ⟨_, rfl⟩
  have T0 : Touch w3 wz (fun _ => False) := by rw [← hwz]; exact Touch.setCells (S := fun _ => False) _ (.inr (Nat.le_refl _)) _ _ _ ((Touch.refl _ _).alloc _)
  have BZ := Lib.hid (B3.out.trans (T0.below B3.out.size (fun _ h => h.elim)))
  have HWZ := Lib.hid hwz
  have HRZ := Lib.hid (range_below BZ.out HR0.out (by rw [HSZ.out]; omega))
  have c3 : wz.cell? ⟨w.heap.size, 3, none⟩ = some (.int .i64 e.ax) := HRZ.out 3 _ rfl
  have c4 : wz.cell? ⟨w.heap.size, 4, none⟩ = some (.int .i64 e.ay) := HRZ.out 4 _ rfl
  clear T0 hwz B3
  go_wp2_with (refine store_ent rfl (.tmp 8) (.tmp 32) rfl _ _ Ent.zero rfl rfl TZ.out ?_; rw [HWZ.out])
  clear HWZ TZ c3 c4
  refine (at_nil wz e.ax e.ay).mono ?_
  rintro r w4 ⟨rfl, b4⟩
  have B4 := Lib.hid (BZ.out.trans (b4.mono BZ.out.size))
  clear b4 HRZ BZ
  have TZ := Lib.hid (there_new w4 #[.int .i64 0, .int .i64 0, .int .i64 0, .int .i64 0, .int .i64 0, .int .i64 0, .int .i64 0, .int .i64 0, .int .i64 0, .int .i64 0, .int .i64 0] 32 11 rfl)
  obtain ⟨wy, hwy⟩ : ∃ wz, ((w4.alloc (.cells #[.int .i64 0, .int .i64 0, .int .i64 0, .int .i64 0, .int .i64 0, .int .i64 0, .int .i64 0, .int .i64 0, .int .i64 0, .int .i64 0, .int .i64 0] 32)).setCells w4.heap.size 0 Ent.zero.cells) = wz := ⟨_, rfl⟩
  have T0 : Touch w4 wy (fun _ => False) := by rw [← hwy]; exact Touch.setCells (S := fun _ => False) _ (.inr (Nat.le_refl _)) _ _ _ ((Touch.refl _ _).alloc _)
  have BY := Lib.hid (B4.out.trans (T0.below B4.out.size (fun _ h => h.elim)))
  have HWY := Lib.hid hwy
  have HRY := Lib.hid (range_below BY.out HR0.out (by rw [HSZ.out]; omega))
  clear T0 hwy B4
  go_wp2_with (first | (refine store_ent rfl (.tmp 10) (.tmp 39) rfl _ _ Ent.zero rfl rfl TZ.out ?_; rw [HWY.out]) | refine load_ent_g rfl (.tmp 2) rfl _ _ rfl e HRY.out ?_)
  refine (set_nil e wy).mono ?_
  rintro r w5 ⟨rfl, b5⟩
  have B5 := Lib.hid (BY.out.trans (b5.mono BY.out.size))
  clear b5 HRY BY HWY TZ
  go_wp2_with fail
  refine (remove_nil id w5).mono ?_
  rintro r w6 ⟨rfl, rfl⟩
  go_wp2_with fail
  refine (list_nil w5).mono ?_
  rintro r w6 ⟨rfl, rfl⟩
  go_wp2_with fail
  refine (of_nil w5 id).mono ?_
  rintro r w6 ⟨rfl, rfl⟩
  go_wp2_with fail
  refine (next_nil w5).mono ?_
  rintro r w6 ⟨rfl, rfl⟩
  have hB : Hid (w0.heap.size ≤ w5.heap.size) := B5.out.size
  obtain ⟨wt, hwt⟩ : ∃ wt, (w5.alloc (.cells #[.slice none 0 0, .int .i64 0] 54)) = wt := ⟨_, rfl⟩
  have ht := tab_new w5 w0.heap.size hB.out 0 54
  have bt : Below w0.heap.size w0 (w5.alloc (.cells #[.slice none 0 0, .int .i64 0] 54)) := B5.out.alloc hB.out _
  rw [hwt] at ht bt
  have HT := Lib.hid ht
  have BT := Lib.hid bt
  have HRT := Lib.hid (range_below bt HR0.out (by rw [HSZ.out]; omega))
  have HWT := Lib.hid hwt
  clear ht bt hwt B5
  go_wp2_with (first | (rw [HWT.out]; refine load_ent rfl (.tmp 2) rfl _ _ rfl e HRT.out ?_))
  refine (insert_ok wt w0.heap.size w5.heap.size _ [] 0 HT.out e (by simp) (by omega)).mono ?_
  rintro r w6 ⟨v6, rfl, ht6, hT6, _⟩
  have B6 := Lib.hid (BT.out.trans (hT6.below BT.out.size (fun j hj => by
    rcases hj with rfl | hj
    · exact hB.out
    · simp [Value.ownBlock] at hj)))
  rw [List.nil_append] at ht6
  obtain ⟨f, hf⟩ : ∃ f, e.withId (0 + 1) = f := ⟨_, rfl⟩
  have hfi : f.id = 1 := by rw [← hf]; rfl
  have hfc : f.cells = [.int .i64 1, .int .i64 f.owner, .int .i64 f.kind, .int .i64 f.ax, .int .i64 f.ay, .int .i64 f.hp, .int .i64 f.doing, .int .i64 f.gx, .int .i64 f.gy, .int .i64 f.target, .int .i64 f.load] := by rw [← hf]; rfl
  rw [hf] at ht6
  have HT6 := Lib.hid ht6
  have HFI := Lib.hid hfi
  have HFC := Lib.hid hfc
  clear ht6 hT6 hf hfi hfc HT BT HRT HWT
  go_wp2_with fail
  refine (list_any w6 w0.heap.size w5.heap.size v6 [f] _ HT6.out (by simp)).mono ?_
  rintro r w7 ⟨l, rfl, hown, hb7⟩
  obtain ⟨gl, cl, rfl, hgl, hgw, hrow⟩ := owns_some' hown (by simp)
  have hl0 : w7.cell? ⟨gl, 0, none⟩ = some (.int .i64 1) := by
    have := hrow 0 f rfl 0 (.int .i64 1) (by rw [HFC.out]; rfl)
    simpa using this
  have hlf : w7.frozen? ⟨gl, 0, none⟩ = false := World.ownsRow.frozenAt hown 0
  have T7 : Touch w6 (w7.setCell ⟨gl, 0, none⟩ (.int .i64 9)) (fun _ => False) := (Touch.of_below hb7).setCell _ _ (.inr hgl)
  obtain ⟨w8, hw8⟩ : ∃ w8, w7.setCell ⟨gl, 0, none⟩ (.int .i64 9) = w8 := ⟨_, rfl⟩
  rw [hw8] at T7
  have B8 := Lib.hid (B6.out.trans (T7.below B6.out.size (fun _ h => h.elim)))
  have HT8 := Lib.hid (HT6.out.touch T7 (fun h => h) (fun _ _ h => h))
  have HW8 := Lib.hid hw8
  clear hown hgl hgw hrow T7 hw8 HT6 B6 hb7
  go_wp2_with (rw [HW8.out])
  clear hl0 hlf HW8
  refine (list_any w8 w0.heap.size w5.heap.size v6 [f] _ HT8.out (by simp)).mono ?_
  rintro r w9 ⟨l, rfl, hown, hb9⟩
  obtain ⟨gm, cm, rfl, hgm, hgmw, hrow⟩ := owns_some' hown (by simp)
  have HRM := Lib.hid (show w9.rangeAt gm 0 f.cells by have := hrow 0 f rfl; simpa using this)
  have B9 := Lib.hid (B8.out.trans (hb9.mono B8.out.size))
  have HT9 := Lib.hid (tab_below HT8.out hb9)
  obtain ⟨w10, hw10⟩ : ∃ w10, w9.alloc (.cells #[.int .i64 1, .int .i64 f.owner, .int .i64 f.kind, .int .i64 f.ax, .int .i64 f.ay, .int .i64 f.hp, .int .i64 f.doing, .int .i64 f.gx, .int .i64 f.gy, .int .i64 f.target, .int .i64 f.load] 32) = w10 := ⟨_, rfl⟩
  have hin : w10.rangeAt w9.heap.size 0 f.cells := by rw [← hw10, HFC.out]; exact fun j u hj => by rw [World.cell?_alloc_at _ _ _ _ rfl, Nat.zero_add]; simpa using hj
  have hif : w10.frozen? ⟨w9.heap.size, 0, none⟩ = false := by rw [← hw10]; exact World.frozen?_alloc_at _ _ _ _ rfl
  have hs10 : w10.heap.size = w9.heap.size + 1 := by rw [← hw10]; simp
  have b10 : Below w9.heap.size w9 w10 := by rw [← hw10]; exact (Below.refl _ _).alloc (Nat.le_refl _) _
  have HMW : Hid (gm < w9.heap.size) := hgmw
  have HW10 := Lib.hid hw10
  have HIN := Lib.hid hin
  have HIF := Lib.hid hif
  have HS10 := Lib.hid hs10
  have B10 := Lib.hid b10
  clear hown hgm hgmw hrow hb9 hw10 hin hif hs10 b10 HT8 B8
  go_wp2_with (refine load_ent rfl (.tmp 114) rfl _ _ rfl f HRM.out ?_; rw [HFC.out])
  rw [HW10.out]
  refine (from_one w10 w9.heap.size f 5 HIN.out (by rw [HFI.out]; omega) (by rw [HFI.out]; omega)).mono ?_
  rintro r w11 ⟨p, v11, rfl, ht11, b11⟩
  have hi11 : w11.cell? ⟨w9.heap.size, 0, none⟩ = some (.int .i64 1) := by
    have := (range_below b11 HIN.out (by rw [HS10.out]; omega)) 0 (.int .i64 1) (by rw [HFC.out]; rfl)
    simpa using this
  have hf11 : w11.frozen? ⟨w9.heap.size, 0, none⟩ = false := (b11.frozen (p := ⟨w9.heap.size, 0, none⟩) (show w9.heap.size < w10.heap.size by rw [HS10.out]; omega)).trans HIF.out
  obtain ⟨w12, hw12⟩ : ∃ w12, w11.setCell ⟨w9.heap.size, 0, none⟩ (.int .i64 3) = w12 := ⟨_, rfl⟩
  have bs : Below w9.heap.size w9 w12 := by rw [← hw12]; exact (B10.out.trans (b11.mono (by rw [HS10.out]; omega))).setCell (Nat.le_refl _) _
  have T12 : Touch w11 w12 (fun k => k = w9.heap.size) := by rw [← hw12]; exact (Touch.refl _ _).setCell _ _ (.inl rfl)
  have HT12 := Lib.hid (ht11.touch T12 (fun h => by have h1 := ht11.ge; rw [HS10.out, h] at h1; omega) (fun k hk h => by have h1 := (ht11.own.lt k hk).1; rw [HS10.out, h] at h1; omega))
  have B12 := Lib.hid (B9.out.trans (bs.mono B9.out.size))
  have hm12 : w12.cell? ⟨gm, 0, none⟩ = some (.int .i64 1) := by
    have := (range_below bs HRM.out HMW.out) 0 (.int .i64 1) (by rw [HFC.out]; rfl)
    simpa using this
  have HW12 := Lib.hid hw12
  clear ht11 b11 hw12 bs T12 HRM HW10 HIN HIF B9 B10 HT9
  go_wp2_with (rw [HW12.out])
  clear hi11 hf11 hm12
  refine (list_any w12 w10.heap.size p v11 [f] _ HT12.out (by simp)).mono ?_
  rintro r w13 ⟨l, rfl, hown, hb13⟩
  obtain ⟨gn, cn, rfl, _, _, hrow⟩ := owns_some' hown (by simp)
  have hn : w13.cell? ⟨gn, 0, none⟩ = some (.int .i64 1) := by
    have := hrow 0 f rfl 0 (.int .i64 1) (by rw [HFC.out]; rfl)
    simpa using this
  have B13 := Lib.hid (HB0.out.trans ((B12.out.trans (hb13.mono B12.out.size)).mono (by rw [HSZ.out]; omega)))
  clear hown hrow hb13
  go_wp2_with fail
  go_ret
  exact ⟨rfl, B13.out⟩
end Go.Proofs.Ytgnkehjjeoolcaa
