/- The walk of RngAlike: for every seed and all asks (at most 300) the call returns true and turns nothing that was there. -/
import Derived.Test.YtpnakfagpklkoaaBelow
import Derived.Deep.RegionHeld3
namespace Go.Proofs.Ytpnakfagpklkoaa
open Go.RowKit

set_option maxHeartbeats 1000000 in
theorem alike_walk (s : Int) (a1 : Option Addr) (len cap : Nat) (zs : List Int) (w : World) (ws : (Lit.int .u64 s).wf = true) (hr : IsRow .u64 w a1 len cap zs) :
    Calls Try.prog 5 #[.int .u64 s, .slice a1 len cap] w fun e w' => e = .returned (.bool true) ∧ Below w.heap.size w w' := by
  have hs := u64_rng ws
  clear ws
  by_cases hbig : 300 < len
  · go_enter Try.func5, Try.ntmps5
    go_wp2_with fail
    refine (awake_any w).mono ?_
    rintro e w1 ⟨rfl, b1⟩
    go_wp2_with fail
    refine (awake_any w1).mono ?_
    rintro e w2 ⟨rfl, b2⟩
    go_wp2_with fail
    go_ret
    exact ⟨rfl, b1.trans (b2.mono b1.size)⟩
  · go_enter Try.func5, Try.ntmps5
    go_wp2_with fail
    refine (awake_any w).mono ?_
    rintro e w1 ⟨rfl, b1⟩
    go_wp2_with fail
    refine (new_any _ w1).mono ?_
    rintro e w3 ⟨rfl, rfl⟩
    go_wp2_with fail
    refine (new_any _ _).mono ?_
    rintro e w3 ⟨rfl, rfl⟩
    have hB : Hid (w.heap.size ≤ w1.heap.size) := b1.size
    go_wp2_with fail
    go_loopg [7] len (fun g i wr => ∃ k : Nat, k ≤ len ∧ g = len - k ∧ i = .int .i64 k ∧ ∃ t : Int, (0 ≤ t ∧ t < 18446744073709551616) ∧
      wr.cell? ⟨w1.heap.size, 0, none⟩ = some (.int .u64 t) ∧ wr.frozen? ⟨w1.heap.size, 0, none⟩ = false ∧ wr.cell? ⟨w1.heap.size + 1, 0, none⟩ = some (.int .u64 t) ∧ wr.frozen? ⟨w1.heap.size + 1, 0, none⟩ = false ∧ Below w.heap.size w wr)
    case atStart => exact ⟨0, Nat.zero_le _, rfl, rfl, s, hs, by rw [World.cell?_alloc_past _ _ _ (by simp)]; exact cell_new1 _ _ _ _ rfl, by rw [World.frozen?_alloc_past _ _ _ (by simp)]; exact froz_new1 _ _ _ _ rfl, cell_new1 _ _ _ _ (by simp), froz_new1 _ _ _ _ (by simp), (b1.alloc hB.out _).alloc (by have := hB.out; simp; omega) _⟩
    case round =>
      clear b1
      obtain ⟨k, hk, hg, rfl, t, ht, hc, hf, hc2, hf2, hb⟩ := hrel
      have HG := Lib.hid hg
      clear hg
      by_cases hlt : k < len
      · obtain ⟨b, off, rfl, hbs, hcs⟩ := hr.cells (by omega)
        have hx := hcs k hlt
        have hxr := u64_rng (hr.wf k hlt)
        clear hcs
        generalize zs.getD k 0 = x at hx hxr
        have hx1 : wr.cell? ⟨b, off + k, none⟩ = some (.int .u64 x) := (hb.cell (by exact hbs)).trans hx
        have hb1 : b ≠ w1.heap.size := by have := hB.out; omega
        have hb2 : b ≠ w1.heap.size + 1 := by have := hB.out; omega
        clear hx
        have n1 : (⟨w1.heap.size, 0, none⟩ : Addr) ≠ ⟨b, off + k, none⟩ := fun e => hb1 (congrArg Addr.block e).symm
        have n2 : (⟨w1.heap.size + 1, 0, none⟩ : Addr) ≠ ⟨b, off + k, none⟩ := fun e => hb2 (congrArg Addr.block e).symm
        have n3 : (⟨w1.heap.size, 0, none⟩ : Addr) ≠ ⟨w1.heap.size + 1, 0, none⟩ := by simp
        have F1 := Lib.hid (show wr.drew.cell? ⟨w1.heap.size, 0, none⟩ = some (.int .u64 t) ∧ wr.drew.frozen? ⟨w1.heap.size, 0, none⟩ = false from ⟨hc, hf⟩)
        have F2 := Lib.hid (show (wr.setCell ⟨w1.heap.size, 0, none⟩ (.int .u64 (belS t x))).drew.cell? ⟨w1.heap.size + 1, 0, none⟩ = some (.int .u64 t) ∧ (wr.setCell ⟨w1.heap.size, 0, none⟩ (.int .u64 (belS t x))).drew.frozen? ⟨w1.heap.size + 1, 0, none⟩ = false from
          ⟨by rw [World.cell?_drew, World.cell?_setCell_other _ _ _ _ n3]; exact hc2, by rw [World.frozen?_drew, World.frozen?_setCell]; exact hf2⟩)
        go_wp2_with fail
        go_region_held3 (fun w' => w'.cell? ⟨b, off + k, none⟩ = some (.int .u64 x)) (first | (go_keep; done) | (show _ = _; rw [World.cell?_drew, World.cell?_setCell_other _ _ _ _ n1]; exact hx1) | (show _ = _; rw [World.cell?_drew, World.cell?_setCell_other _ _ _ _ n2, World.cell?_setCell_other _ _ _ _ n1]; exact hx1))
          (first
            | (go_at_call_of 15 (Value.pointer (some ⟨w1.heap.size, 0, none⟩)); refine (below_any t x ht hxr _ _ F1.out.1 F1.out.2).mono ?_; rintro e w' ⟨rfl, rfl⟩)
            | (go_at_call 15; refine (below_any t x ht hxr _ _ F2.out.1 F2.out.2).mono ?_; rintro e w' ⟨rfl, rfl⟩))
        have hts := belS_rng t x ht
        have K1 : (((wr.setCell ⟨w1.heap.size, 0, none⟩ (.int .u64 (belS t x))).setCell ⟨w1.heap.size + 1, 0, none⟩ (.int .u64 (belS t x))).drew).cell? ⟨w1.heap.size, 0, none⟩ = some (.int .u64 (belS t x)) := by
          rw [World.cell?_drew, World.cell?_setCell_other _ _ _ _ (Ne.symm n3)]; exact World.cell?_setCell_same _ _ _ hc
        have K2 : (((wr.setCell ⟨w1.heap.size, 0, none⟩ (.int .u64 (belS t x))).setCell ⟨w1.heap.size + 1, 0, none⟩ (.int .u64 (belS t x))).drew).frozen? ⟨w1.heap.size, 0, none⟩ = false := by
          rw [World.frozen?_drew, World.frozen?_setCell, World.frozen?_setCell]; exact hf
        have K3 : (((wr.setCell ⟨w1.heap.size, 0, none⟩ (.int .u64 (belS t x))).setCell ⟨w1.heap.size + 1, 0, none⟩ (.int .u64 (belS t x))).drew).cell? ⟨w1.heap.size + 1, 0, none⟩ = some (.int .u64 (belS t x)) := by
          rw [World.cell?_drew]; exact World.cell?_setCell_same _ _ _ F2.out.1
        have K4 : (((wr.setCell ⟨w1.heap.size, 0, none⟩ (.int .u64 (belS t x))).setCell ⟨w1.heap.size + 1, 0, none⟩ (.int .u64 (belS t x))).drew).frozen? ⟨w1.heap.size + 1, 0, none⟩ = false := by
          rw [World.frozen?_drew, World.frozen?_setCell, World.frozen?_setCell]; exact hf2
        have K5 : Below w.heap.size w (((wr.setCell ⟨w1.heap.size, 0, none⟩ (.int .u64 (belS t x))).setCell ⟨w1.heap.size + 1, 0, none⟩ (.int .u64 (belS t x))).drew) :=
          ((hb.setCell hB.out _).setCell (by have := hB.out; simp; omega) _).drew
        generalize (((wr.setCell ⟨w1.heap.size, 0, none⟩ (.int .u64 (belS t x))).setCell ⟨w1.heap.size + 1, 0, none⟩ (.int .u64 (belS t x))).drew) = wx at K1 K2 K3 K4 K5 ⊢
        generalize belS t x = y at hts K1 K3 ⊢
        clear hc hf hc2 hf2 hb F1 F2 hx1 hxr ht n1 n2 hb1 hb2 hr hbs
        have K6 : w1.heap.size + 1 < wx.heap.size := World.block_lt_of_cell? wx _ K3
        go_wp2_with fail
        refine (seed_any y _ wx K1).mono ?_
        rintro e w4 ⟨rfl, rfl⟩
        go_wp2_with fail
        refine (new_any y wx).mono ?_
        rintro e w4 ⟨rfl, rfl⟩
        go_wp2_with fail
        refine (next_any y _ _ (cell_new1 _ _ _ _ rfl) (froz_new1 _ _ _ _ rfl)).mono ?_
        rintro e w4 ⟨rfl, rfl⟩
        go_wp2_with fail
        refine (next_any y _ _ (by rw [World.cell?_alloc_past _ _ _ (by omega)]; exact K1) (by rw [World.frozen?_alloc_past _ _ _ (by omega)]; exact K2)).mono ?_
        rintro e w4 ⟨rfl, rfl⟩
        go_wp2_with fail
        have C2 : ((wx.alloc (Obj.cells #[Value.int IntKind.u64 (gam y)] 41)).setCell ⟨w1.heap.size, 0, none⟩ (.int .u64 (gam y))).cell? ⟨w1.heap.size + 1, 0, none⟩ = some (.int .u64 y) := by
          rw [World.cell?_setCell_other _ _ _ _ n3, World.cell?_alloc_past _ _ _ (by omega)]; exact K3
        have C1 : ((wx.alloc (Obj.cells #[Value.int IntKind.u64 (gam y)] 41)).setCell ⟨w1.heap.size, 0, none⟩ (.int .u64 (gam y))).cell? ⟨w1.heap.size, 0, none⟩ = some (.int .u64 (gam y)) :=
          World.cell?_setCell_same _ _ _ (by rw [World.cell?_alloc_past _ _ _ (by omega)]; exact K1)
        have C0 : ((wx.alloc (Obj.cells #[Value.int IntKind.u64 (gam y)] 41)).setCell ⟨w1.heap.size, 0, none⟩ (.int .u64 (gam y))).cell? ⟨wx.heap.size, 0, none⟩ = some (.int .u64 (gam y)) := by
          rw [World.cell?_setCell_other _ _ _ _ (fun e => by have := congrArg Addr.block e; simp at this; omega)]; exact cell_new1 _ _ _ _ rfl
        have C3 : ((wx.alloc (Obj.cells #[Value.int IntKind.u64 (gam y)] 41)).setCell ⟨w1.heap.size, 0, none⟩ (.int .u64 (gam y))).frozen? ⟨w1.heap.size + 1, 0, none⟩ = false := by
          rw [World.frozen?_setCell, World.frozen?_alloc_past _ _ _ (by omega)]; exact K4
        have C4 : ((wx.alloc (Obj.cells #[Value.int IntKind.u64 (gam y)] 41)).setCell ⟨w1.heap.size, 0, none⟩ (.int .u64 (gam y))).frozen? ⟨w1.heap.size, 0, none⟩ = false := by
          rw [World.frozen?_setCell, World.frozen?_alloc_past _ _ _ (by omega)]; exact K2
        have C5 : Below w.heap.size w ((wx.alloc (Obj.cells #[Value.int IntKind.u64 (gam y)] 41)).setCell ⟨w1.heap.size, 0, none⟩ (.int .u64 (gam y))) :=
          (K5.alloc K5.size _).setCell hB.out _
        generalize ((wx.alloc (Obj.cells #[Value.int IntKind.u64 (gam y)] 41)).setCell ⟨w1.heap.size, 0, none⟩ (.int .u64 (gam y))) = wz at C0 C1 C2 C3 C4 C5 ⊢
        have n4 : (⟨w1.heap.size + 1, 0, none⟩ : Addr) ≠ ⟨wx.heap.size, 0, none⟩ := fun e => by have := congrArg Addr.block e; simp at this; omega
        refine (next_any y _ _ C2 C3).mono ?_
        rintro e w4 ⟨rfl, rfl⟩
        have D2 : (wz.setCell ⟨w1.heap.size + 1, 0, none⟩ (.int .u64 (gam y))).cell? ⟨w1.heap.size + 1, 0, none⟩ = some (.int .u64 (gam y)) := World.cell?_setCell_same _ _ _ C2
        have D1 : (wz.setCell ⟨w1.heap.size + 1, 0, none⟩ (.int .u64 (gam y))).cell? ⟨w1.heap.size, 0, none⟩ = some (.int .u64 (gam y)) := by
          rw [World.cell?_setCell_other _ _ _ _ (Ne.symm n3)]; exact C1
        have D0 : (wz.setCell ⟨w1.heap.size + 1, 0, none⟩ (.int .u64 (gam y))).cell? ⟨wx.heap.size, 0, none⟩ = some (.int .u64 (gam y)) := by
          rw [World.cell?_setCell_other _ _ _ _ n4]; exact C0
        have D3 : (wz.setCell ⟨w1.heap.size + 1, 0, none⟩ (.int .u64 (gam y))).frozen? ⟨w1.heap.size + 1, 0, none⟩ = false := by
          rw [World.frozen?_setCell]; exact C3
        have D4 : (wz.setCell ⟨w1.heap.size + 1, 0, none⟩ (.int .u64 (gam y))).frozen? ⟨w1.heap.size, 0, none⟩ = false := by
          rw [World.frozen?_setCell]; exact C4
        have D5 : Below w.heap.size w (wz.setCell ⟨w1.heap.size + 1, 0, none⟩ (.int .u64 (gam y))) := C5.setCell (by have := hB.out; simp; omega) _
        generalize (wz.setCell ⟨w1.heap.size + 1, 0, none⟩ (.int .u64 (gam y))) = wq at D0 D1 D2 D3 D4 D5 ⊢
        have hgr := gam_rng y
        clear C0 C1 C2 C3 C4 C5 K1 K2 K3 K4 K5 hts
        generalize gam y = z at D0 D1 D2 hgr ⊢
        by_cases hz : mixv z = 0
        · have hz1 : (mixv z == 0) = true := by simp [hz]
          clear hz
          go_wp2_with fail
          refine (seed_any z _ wq D2).mono ?_
          rintro e w4 ⟨rfl, rfl⟩
          go_wp2_with fail
          refine (seed_any z _ wq D1).mono ?_
          rintro e w4 ⟨rfl, rfl⟩
          go_wp2_with fail
          refine (seed_any z _ wq D2).mono ?_
          rintro e w4 ⟨rfl, rfl⟩
          go_wp2_with fail
          refine (seed_any z _ wq D0).mono ?_
          rintro e w4 ⟨rfl, rfl⟩
          go_wp2_with fail
          go_roundg (len - (k + 1))
          case measure => rw [HG.out]; omega
          case rel => exact ⟨k + 1, by omega, rfl, by go_num, z, hgr, D1, D4, D2, D3, D5⟩
        · have hz1 : (mixv z == 0) = false := by simpa using hz
          clear hz
          go_wp2_with fail
          refine (seed_any z _ wq D2).mono ?_
          rintro e w4 ⟨rfl, rfl⟩
          go_wp2_with fail
          refine (seed_any z _ wq D0).mono ?_
          rintro e w4 ⟨rfl, rfl⟩
          go_wp2_with fail
          go_roundg (len - (k + 1))
          case measure => rw [HG.out]; omega
          case rel => exact ⟨k + 1, by omega, rfl, by go_num, z, hgr, D1, D4, D2, D3, D5⟩
      · go_wp2
        go_ret
        exact ⟨rfl, hb⟩
end Go.Proofs.Ytpnakfagpklkoaa
