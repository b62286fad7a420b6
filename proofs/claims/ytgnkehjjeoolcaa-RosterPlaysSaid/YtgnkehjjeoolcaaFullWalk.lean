/- The walk of RosterFull: for every entity and every number the call returns true and turns nothing that was there. -/
import Derived.Test.YtgnkehjjeoolcaaLive
namespace Go.Proofs.Ytgnkehjjeoolcaa
open Go.RowKit

/-- the entities of the first k insertions -/
def mk (e : Ent) (k : Nat) : List Ent := (List.range k).map (fun i : Nat => e.withId ((i : Int) + 1))

theorem mk_len (e : Ent) (k : Nat) : (mk e k).length = k := by simp [mk]
theorem mk_succ (e : Ent) (k : Nat) : mk e (k + 1) = mk e k ++ [e.withId ((k : Int) + 1)] := by simp [mk, List.range_succ]
theorem mk_get (e : Ent) (k i : Nat) (h : i < k) : (mk e k)[i]? = some (e.withId ((i : Int) + 1)) := by simp [mk, h]
theorem mk_live (e : Ent) (k : Nat) (h : k ≤ 40) : Live (mk e k) k := by
  induction k with
  | zero => exact Live.nil 0 (by omega)
  | succ k ih =>
    rw [mk_succ]
    exact (ih (by omega)).snoc e (by rw [mk_len]; omega)

theorem Live.found {es : List Ent} {given : Int} (h : Live es given) {k : Nat} {e : Ent} (he : es[k]? = some e) : getC es e.id = 0 ∧ remL es e.id = es.eraseIdx k := by
  have := idx_of h.sorted he rfl
  simp [getC, remL, this]

set_option maxHeartbeats 2000000 in
theorem full_walk (e : Ent) (n : Int) (hn : 0 ≤ n ∧ n ≤ 255) (w : World) :
    Calls Try.prog 6 #[.agg e.cells.toArray, .int .u8 n] w fun r w' => r = .returned (.bool true) ∧ Below w.heap.size w w' := by
  obtain ⟨n, rfl⟩ := Int.eq_ofNat_of_zero_le hn.1
  have hn2 : n ≤ 255 := by omega
  clear hn
  obtain ⟨w0, hw0⟩ : ∃ w0, w.alloc (.cells e.cells.toArray 32) = w0 := ⟨_, rfl⟩
  have hsz : w0.heap.size = w.heap.size + 1 := by rw [← hw0]; simp
  have hr0 : w0.rangeAt w.heap.size 0 e.cells := by rw [← hw0]; exact fun j u hj => by rw [World.cell?_alloc_at _ _ _ _ rfl, Nat.zero_add]; simpa using hj
  have b00 : Below w.heap.size w w0 := by rw [← hw0]; exact (Below.refl _ _).alloc (Nat.le_refl _) _
  have HR0 := Lib.hid hr0
  have HB0 := Lib.hid b00
  have HSZ := Lib.hid hsz
  have HW0 := Lib.hid hw0
  clear hr0 b00 hsz hw0
  go_enter Try.func6, Try.ntmps6
  go_wp2_with fail
  rw [HW0.out]
  refine (awake_any w0).mono ?_
  rintro r w1 ⟨rfl, b1⟩
  go_wp2_with fail
  refine (new_any w1 w0.heap.size b1.size).mono ?_
  rintro r w2 ⟨rfl, ht, b2⟩
  have b3 : Below w0.heap.size w0 w2 := b1.trans (b2.mono b1.size)
  have hB : Hid (w0.heap.size ≤ w1.heap.size) := b1.size
  clear b1 b2
  go_wp2_with fail
  go_loopg [6] 40 (fun m i wr => ∃ k : Nat, k ≤ 40 ∧ m = 40 - k ∧ i = .int .i64 k ∧ ∃ v, Tab wr w0.heap.size w1.heap.size v (mk e k) k ∧ Below w0.heap.size w0 wr)
  case atStart => exact ⟨0, by omega, rfl, rfl, _, ht, b3⟩
  case round =>
    clear ht b3
    obtain ⟨k, hk, hm, rfl, v, ht, hb⟩ := hrel
    have HM := Lib.hid hm
    have HT := Lib.hid ht
    clear hm ht
    have HR := Lib.hid (range_below hb HR0.out (by rw [HSZ.out]; omega))
    by_cases hlt : k < 40
    · go_wp2_with (refine load_ent rfl (.tmp 2) rfl _ _ rfl e HR.out ?_)
      refine (insert_ok wr w0.heap.size w1.heap.size v (mk e k) k HT.out e (by rw [mk_len]; exact hlt) (by omega)).mono ?_
      rintro r w3 ⟨v3, rfl, ht3, hT3, _⟩
      have hb3 : Below w0.heap.size w0 w3 := hb.trans (hT3.below hb.size (fun j hj => by
        rcases hj with rfl | hj
        · exact hB.out
        · exact (HT.out.own.lt j hj).1))
      have HT3 := Lib.hid ht3
      clear ht3 hT3
      go_wp2_with fail
      go_roundg (40 - (k + 1))
      case measure => rw [HM.out]; omega
      case rel => exact ⟨k + 1, by omega, rfl, by go_num, v3, by rw [mk_succ]; exact HT3.out, hb3⟩
    · obtain rfl : k = 40 := by omega
      clear hlt hk
      go_wp2_with (refine load_ent rfl (.tmp 2) rfl _ _ rfl e HR.out ?_)
      refine (insert_full wr w0.heap.size w1.heap.size v (mk e 40) 40 HT.out e (by omega) (.inl (by rw [mk_len]; omega))).mono ?_
      rintro r w3 ⟨rfl, b3⟩
      have HT3 := Lib.hid (tab_below HT.out b3)
      have hb3 : Below w0.heap.size w0 w3 := hb.trans (b3.mono hb.size)
      clear HR HT b3 hb
      go_wp2_with fail
      have hid : (mk e 40)[n % 40]? = some (e.withId (((n % 40 : Nat) : Int) + 1)) := mk_get e 40 (n % 40) (by omega)
      obtain ⟨f1, f2⟩ := (mk_live e 40 (by omega)).found hid
      have hid2 : (e.withId (((n % 40 : Nat) : Int) + 1)).id = 1 + (n : Int) % 40 := by
        show ((n % 40 : Nat) : Int) + 1 = 1 + (n : Int) % 40
        omega
      rw [hid2] at f1 f2
      have F1 := Lib.hid f1
      have F2 := Lib.hid f2
      clear hid hid2 f1 f2
      refine (remove_any w3 w0.heap.size w1.heap.size v (mk e 40) 40 HT3.out (mk_live e 40 (by omega)).sorted (by rw [mk_len]; omega) (1 + (n : Int) % 40)).mono ?_
      rintro r w4 ⟨v4, rfl, ht4, hT4, _⟩
      have hb4 : Below w0.heap.size w0 w4 := hb3.trans (hT4.below hb3.size (fun j hj => by
        rcases hj with rfl | hj
        · exact hB.out
        · exact (HT3.out.own.lt j hj).1))
      rw [F2.out] at ht4
      rw [F1.out]
      have HT4 := Lib.hid ht4
      clear ht4 hT4 hb3
      have HR4 := Lib.hid (range_below hb4 HR0.out (by rw [HSZ.out]; omega))
      go_wp2_with (refine load_ent rfl (.tmp 2) rfl _ _ rfl e HR4.out ?_)
      refine (insert_ok w4 w0.heap.size w1.heap.size v4 ((mk e 40).eraseIdx (n % 40)) 40 HT4.out e (by rw [List.length_eraseIdx, if_pos (by rw [mk_len]; omega), mk_len]; omega) (by omega)).mono ?_
      rintro r w5 ⟨v5, rfl, _, hT5, _⟩
      have hb5 : Below w0.heap.size w0 w5 := hb4.trans (hT5.below hb4.size (fun j hj => by
        rcases hj with rfl | hj
        · exact hB.out
        · exact (HT4.out.own.lt j hj).1))
      clear hT5 hb4 HR4
      go_wp2_with fail
      refine (from_nil w5 2147483646 (by omega)).mono ?_
      rintro r w6 ⟨p, v6, rfl, ht6, b6⟩
      have hb6 : Below w0.heap.size w0 w6 := hb5.trans (b6.mono hb5.size)
      have hs6 : Hid (w0.heap.size ≤ w5.heap.size) := hb5.size
      have HR6 := Lib.hid (range_below hb6 HR0.out (by rw [HSZ.out]; omega))
      have HT6 := Lib.hid ht6
      clear ht6 b6 hb5
      go_wp2_with (refine load_ent rfl (.tmp 2) rfl _ _ rfl e HR6.out ?_)
      refine (insert_ok w6 w5.heap.size p v6 [] 2147483645 HT6.out e (by simp) (by omega)).mono ?_
      rintro r w7 ⟨v7, rfl, ht7, hT7, _⟩
      have hb7 : Below w0.heap.size w0 w7 := hb6.trans (hT7.below hb6.size (fun j hj => by
        rcases hj with rfl | hj
        · exact Nat.le_trans hs6.out HT6.out.ge
        · exact Nat.le_trans hs6.out (HT6.out.own.lt j hj).1))
      have HR7 := Lib.hid (range_below hb7 HR0.out (by rw [HSZ.out]; omega))
      have HT7 := Lib.hid ht7
      clear ht7 hT7 hb6 HR6
      go_wp2_with (refine load_ent rfl (.tmp 2) rfl _ _ rfl e HR7.out ?_)
      refine (insert_full w7 w5.heap.size p v7 _ _ HT7.out e (by omega) (.inr (by omega))).mono ?_
      rintro r w8 ⟨rfl, b8⟩
      have hb8 : Below w.heap.size w w8 := HB0.out.trans ((hb7.trans (b8.mono hb7.size)).mono (by rw [HSZ.out]; omega))
      clear b8 hb7
      go_wp2_with fail
      go_ret
      exact ⟨rfl, hb8⟩
end Go.Proofs.Ytgnkehjjeoolcaa
