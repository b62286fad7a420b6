/- The walk of RngNil: for every limit and every list (of at most 1000) the call returns true and turns nothing that was there. -/
import Derived.Test.YtpnakfagpklkoaaShufr
namespace Go.Proofs.Ytpnakfagpklkoaa
open Go.RowKit

/-- two sources in one world -/
structure Two (w : World) (p q : Addr) (s t : Int) : Prop where
  ne : p ≠ q
  c1 : w.cell? p = some (.int .u64 s)
  f1 : w.frozen? p = false
  c2 : w.cell? q = some (.int .u64 t)
  f2 : w.frozen? q = false

theorem Two.left {w : World} {p q : Addr} {s t : Int} (h : Two w p q s t) (u : Int) : Two (w.setCell p (.int .u64 u)) p q u t :=
  ⟨h.ne, World.cell?_setCell_same _ _ _ h.c1, by rw [World.frozen?_setCell]; exact h.f1, by rw [World.cell?_setCell_other _ _ _ _ h.ne]; exact h.c2, by rw [World.frozen?_setCell]; exact h.f2⟩

theorem Two.right {w : World} {p q : Addr} {s t : Int} (h : Two w p q s t) (u : Int) : Two (w.setCell q (.int .u64 u)) p q s u :=
  ⟨h.ne, by rw [World.cell?_setCell_other _ _ _ _ (Ne.symm h.ne)]; exact h.c1, by rw [World.frozen?_setCell]; exact h.f1, World.cell?_setCell_same _ _ _ h.c2, by rw [World.frozen?_setCell]; exact h.f2⟩

set_option maxHeartbeats 1000000 in
theorem nil_walk (n : Int) (a1 : Option Addr) (len cap : Nat) (zs : List Int) (w : World) (wn : (Lit.int .u64 n).wf = true) (hr : IsRow .i64 w a1 len cap zs) :
    Calls Try.prog 7 #[.int .u64 n, .slice a1 len cap] w fun e w' => e = .returned (.bool true) ∧ Below w.heap.size w w' := by
  have hn := u64_rng wn
  clear wn
  by_cases hbig : 1000 < len
  · go_enter Try.func7, Try.ntmps7
    go_wp2_with fail
    refine (awake_any w).mono ?_
    rintro e w1 ⟨rfl, b1⟩
    go_wp2_with fail
    refine (awake_any w1).mono ?_
    rintro e w2 ⟨rfl, b2⟩
    go_wp2_with fail
    go_ret
    exact ⟨rfl, b1.trans (b2.mono b1.size)⟩
  · go_enter Try.func7, Try.ntmps7
    go_wp2_with fail
    refine (awake_any w).mono ?_
    rintro e w1 ⟨rfl, b1⟩
    have hr1 : IsRow .i64 w1 a1 len cap zs := hr.below b1
    go_wp2_with fail
    refine (shuffle_none a1 len cap zs w1 hr1.seen (by omega)).mono ?_
    rintro e w2 ⟨v, rfl, hown, b2⟩
    obtain ⟨ao, cap1, rfl⟩ := owns_form hown
    have hr2 : IsRow .i64 w2 a1 len cap zs := hr1.below b2
    have b3 : Below w.heap.size w w2 := b1.trans (b2.mono b1.size)
    have hB : Hid (w.heap.size ≤ w2.heap.size) := b3.size
    have hzl : (zs.take len).length = len := by have := hown.1; simpa using this
    have HZ := Lib.hid hzl
    clear b1 b2 hr1 hr hzl
    go_wp2_with fail
    go_loopg [7] len (fun g i wr => ∃ k : Nat, k ≤ len ∧ g = len - k ∧ i = .int .i64 k ∧ ∃ d : Nat, wr = w2.drewN d)
    case atStart => exact ⟨0, Nat.zero_le _, rfl, rfl, 0, rfl⟩
    case round =>
      obtain ⟨k, hk, hg, rfl, d, rfl⟩ := hrel
      have HG := Lib.hid hg
      clear hg
      by_cases hlt : k < len
      · obtain ⟨g, rfl, _⟩ := owns_some hown (by omega)
        obtain ⟨b, off, rfl, hbs, hcs⟩ := hr2.cells (by omega)
        have hx := hcs k hlt
        have hy : w2.cell? ⟨g, k, none⟩ = some (.int .i64 (zs.getD k 0)) := by
          rw [hown.cellAt k (by omega), get_map _ k (by rw [HZ.out]; exact hlt)]
          simp [List.getD_eq_getElem?_getD, hlt]
        clear hcs
        generalize zs.getD k 0 = x at hx hy
        go_wp2_with fail
        go_region
        go_wp2_with fail
        go_roundg (len - (k + 1))
        case measure => rw [HG.out]; omega
        case rel => exact ⟨k + 1, by omega, rfl, by go_num, d + 1, rfl⟩
      · clear hr2
        go_wp2_with fail
        refine (new_any 0 _).mono ?_
        rintro e wy ⟨rfl, hwy⟩
        have ht : Two wy ⟨w2.heap.size, 0, none⟩ ⟨w2.heap.size + 1, 0, none⟩ 0 0 := by
          rw [hwy]
          exact ⟨by simp, by rw [World.cell?_alloc_past _ _ _ (by simp [World.heap_drewN])]; exact cell_new1 _ _ _ _ (by simp [World.heap_drewN]), by rw [World.frozen?_alloc_past _ _ _ (by simp [World.heap_drewN])]; exact froz_new1 _ _ _ _ (by simp [World.heap_drewN]),
            cell_new1 _ _ _ _ (by simp [World.heap_drewN]), froz_new1 _ _ _ _ (by simp [World.heap_drewN])⟩
        have hb : Below w.heap.size w wy := by
          rw [hwy]
          exact ((below_drewN b3 d).alloc (by have := hB.out; simp [World.heap_drewN]; omega) _).alloc (by have := hB.out; simp [World.heap_drewN]; omega) _
        have hsz : (((w2.drewN d).alloc (Obj.cells #[Value.int IntKind.u64 0] 41)).heap.size) = w2.heap.size + 1 := by simp [World.heap_drewN]
        rw [hsz]
        clear hwy hsz hown b3 hbig
        go_wp2_with fail
        refine (next_nil wy).mono ?_
        rintro e wx ⟨rfl, hw⟩
        subst hw
        go_wp2_with fail
        refine (below_nil n wx).mono ?_
        rintro e wx ⟨rfl, rfl⟩
        go_wp2_with fail
        refine (seed_nil _).mono ?_
        rintro e wx ⟨rfl, rfl⟩
        go_wp2_with fail
        refine (next_any 0 _ _ ht.c1 ht.f1).mono ?_
        rintro e wx ⟨rfl, hw⟩
        replace ht := ht.left (gam 0)
        replace hb := hb.setCell (p := ⟨w2.heap.size, 0, none⟩) hB.out (.int .u64 (gam 0))
        rw [← hw] at ht hb
        clear hw
        go_wp2_with fail
        refine (next_any 0 _ _ ht.c2 ht.f2).mono ?_
        rintro e wx ⟨rfl, hw⟩
        replace ht := ht.right (gam 0)
        replace hb := hb.setCell (p := ⟨w2.heap.size + 1, 0, none⟩) (Nat.le_succ_of_le hB.out) (.int .u64 (gam 0))
        rw [← hw] at ht hb
        clear hw
        go_wp2_with fail
        refine (below_any (gam 0) n (gam_rng 0) hn _ _ ht.c1 ht.f1).mono ?_
        rintro e wx ⟨rfl, hw⟩
        replace ht := ht.left (belS (gam 0) n)
        replace hb := hb.setCell (p := ⟨w2.heap.size, 0, none⟩) hB.out (.int .u64 (belS (gam 0) n))
        rw [← hw] at ht hb
        clear hw
        go_wp2_with fail
        refine (below_any (gam 0) n (gam_rng 0) hn _ _ ht.c2 ht.f2).mono ?_
        rintro e wx ⟨rfl, hw⟩
        replace ht := ht.right (belS (gam 0) n)
        replace hb := hb.setCell (p := ⟨w2.heap.size + 1, 0, none⟩) (Nat.le_succ_of_le hB.out) (.int .u64 (belS (gam 0) n))
        rw [← hw] at ht hb
        clear hw
        go_wp2_with fail
        refine (seed_any _ _ _ ht.c1).mono ?_
        rintro e wx ⟨rfl, rfl⟩
        go_wp2_with fail
        refine (seed_any _ _ _ ht.c2).mono ?_
        rintro e wx ⟨rfl, rfl⟩
        go_wp2_with fail
        go_ret
        exact ⟨rfl, hb⟩
end Go.Proofs.Ytpnakfagpklkoaa
