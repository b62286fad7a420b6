/- The walk of RngShuffles: for every seed and every list (of at most 300) the call returns true and turns nothing that was there. -/
import Derived.Test.YtpnakfagpklkoaaShufr
import Derived.Test.YtpnakfagpklkoaaCount
import Derived.Deep.QuietTactic
import Derived.BigQuiet
namespace Go.Proofs.Ytpnakfagpklkoaa
open Go.RowKit

/-- what the law's loops read: four rows in one world -/
structure Four (w : World) (a1 ai aa ab : Option Addr) (len : Nat) (ys xs : List Int) : Prop where
  yl : ys.length = len
  xl : xs.length = len
  cnt : ∀ e, xs.count e = ys.count e
  cells : ∀ i, i < len → ∃ b off gi ga gb, a1 = some ⟨b, off, none⟩ ∧ ai = some ⟨gi, 0, none⟩ ∧ aa = some ⟨ga, 0, none⟩ ∧ ab = some ⟨gb, 0, none⟩ ∧
    ∀ k, k < len → w.cell? ⟨b, off + k, none⟩ = some (.int .i64 (ys.getD k 0)) ∧ w.cell? ⟨gi, k, none⟩ = some (.int .i64 (ys.getD k 0)) ∧ w.cell? ⟨ga, k, none⟩ = some (.int .i64 (xs.getD k 0)) ∧ w.cell? ⟨gb, k, none⟩ = some (.int .i64 (xs.getD k 0))

theorem owns_cells {w : World} {B : Nat} {ao : Option Addr} {n cap : Nat} {ys : List Int} (h : w.ownsRow B 3 1 (.slice ao n cap) n (ys.map (Value.int .i64))) (hn : 0 < n) :
    ∃ g, ao = some ⟨g, 0, none⟩ ∧ ∀ k, k < n → w.cell? ⟨g, k, none⟩ = some (.int .i64 (ys.getD k 0)) := by
  have hl : ys.length = n := by have := h.1; simpa using this
  obtain ⟨g, rfl, _⟩ := owns_some h hn
  exact ⟨g, rfl, fun k hk => by rw [h.cellAt k (by omega), get_map ys k (by omega)]⟩

theorem drewN2 (w : World) (a b : Nat) : (w.drewN a).drewN b = w.drewN (a + b) := by simp [World.drewN, Nat.add_assoc]
theorem drewN3 (w : World) (a b c : Nat) : ((w.drewN a).drewN b).drewN c = w.drewN (a + b + c) := by simp [World.drewN, Nat.add_assoc]

set_option maxHeartbeats 2000000 in
theorem shuffles_walk (s : Int) (a1 : Option Addr) (len cap : Nat) (zs : List Int) (w : World) (ws : (Lit.int .u64 s).wf = true) (hr : IsRow .i64 w a1 len cap zs) :
    Calls Try.prog 6 #[.int .u64 s, .slice a1 len cap] w fun e w' => e = .returned (.bool true) ∧ Below w.heap.size w w' := by
  have hs := u64_rng ws
  clear ws
  by_cases hbig : 300 < len
  · go_enter Try.func6, Try.ntmps6
    go_wp2_with fail
    refine (awake_any w).mono ?_
    rintro e w1 ⟨rfl, b1⟩
    go_wp2_with fail
    refine (awake_any w1).mono ?_
    rintro e w2 ⟨rfl, b2⟩
    go_wp2_with fail
    go_ret
    exact ⟨rfl, b1.trans (b2.mono b1.size)⟩
  · have hzl : (zs.take len).length = len := by
      rcases hr with ⟨rfl, rfl, rfl, rfl⟩ | ⟨x, rfl, h1, h2, h3, hc, h4⟩
      · rfl
      · simp; omega
    obtain ⟨ys, hys⟩ : ∃ ys, zs.take len = ys := ⟨_, rfl⟩
    rw [hys] at hzl
    have HY := Lib.hid hys
    have HL := Lib.hid hzl
    clear hys hzl
    go_enter Try.func6, Try.ntmps6
    go_wp2_with fail
    refine (awake_any w).mono ?_
    rintro e w1 ⟨rfl, b1⟩
    have hr1 : IsRow .i64 w1 a1 len cap zs := hr.below b1
    go_wp2_with (at_builtin; refine append_seen _ rfl _ _ rfl w1.heap.size (.slice none 0 0) 0 [] rfl (World.ownsRow_nil _ _ _ _) _ _ _ zs rfl hr1.seen (by omega) (Nat.le_refl _) ?_; intro v1 w2 hown1 hgr1)
    replace hown1 : w2.ownsRow w1.heap.size 3 1 v1 len (ys.map (Value.int .i64)) := by rw [← HY.out]; simpa using hown1
    have b2 : Below w1.heap.size w1 w2 := (Below.refl _ w1).grown hgr1 (Nat.le_refl _) (by intro k hk; simp [Value.ownBlock] at hk)
    have b3 : Below w.heap.size w w2 := b1.trans (b2.mono b1.size)
    have hB : Hid (w.heap.size ≤ w2.heap.size) := b3.size
    clear hr1 b1 b2 hgr1
    obtain ⟨ai, cap1, rfl⟩ := owns_form hown1
    go_wp2_with fail
    refine (new_any s w2).mono ?_
    rintro e w3 ⟨rfl, hw⟩
    have b4 : Below w2.heap.size w2 w3 := by rw [hw]; exact (Below.refl _ _).alloc (Nat.le_refl _) _
    have hc3 : w3.cell? ⟨w2.heap.size, 0, none⟩ = some (.int .u64 s) := by rw [hw]; exact cell_new1 _ _ _ _ rfl
    have hf3 : w3.frozen? ⟨w2.heap.size, 0, none⟩ = false := by rw [hw]; exact froz_new1 _ _ _ _ rfl
    have hown3 := owns_below hown1 b4
    have b5 : Below w.heap.size w w3 := b3.trans (b4.mono hB.out)
    have hlt1 := hown1.lt
    clear hw hown1 b3
    go_wp2_with fail
    refine (shuffle_any s hs ⟨w2.heap.size, 0, none⟩ ai len cap1 ys w3 hc3 hf3 (owns_seen hown3) (by omega) ys (List.take_of_length_le (by rw [HL.out]; exact Nat.le_refl _))).mono ?_
    rintro e w4 ⟨va, rfl, howna, hca, _, hga⟩
    obtain ⟨aa, cap2, rfl⟩ := owns_form howna
    have hown4 : w4.ownsRow w1.heap.size 3 1 (.slice ai len cap1) len (ys.map (Value.int .i64)) := hown3.kept hga (by
      rcases hk : (Value.slice ai len cap1).ownBlock with _ | k
      · exact .inl rfl
      · right
        intro e
        have := (hlt1 k hk).2
        simp only [Option.some.injEq] at e
        omega)
    have b6 : Below w.heap.size w w4 := b5.grown hga b5.size (fun k hk => by simp only [Option.some.injEq] at hk; have := hB.out; omega)
    have hr6 : IsRow .i64 w4 a1 len cap zs := hr.below b6
    clear b5 hown3 hc3 hf3 b4 hlt1 hga
    go_wp2_with fail
    refine (rshuffle_any s hs a1 len cap zs w4 hr6.seen (by omega) ys HY.out).mono ?_
    rintro e w5 ⟨vb, rfl, hownb, b7⟩
    obtain ⟨ab, cap3, rfl⟩ := owns_form hownb
    have b8 : Below w.heap.size w w5 := b6.trans (b7.mono b6.size)
    have hca5 := (b7.cell (World.block_lt_of_cell? w4 _ hca)).trans hca
    have hi5 := owns_below hown4 b7
    have ha5 := owns_below howna b7
    have hr5 := hr.below b8
    have F4 : Four w5 a1 ai aa ab len ys (shuf len s ys).1 := ⟨HL.out, by rw [shuf_length, HL.out], shuf_count len s ys (by rw [HL.out]; exact Nat.le_refl _), fun i hi => by
      obtain ⟨b, off, e1, _, hcs⟩ := hr5.cells (by omega)
      obtain ⟨gi, e2, h2⟩ := owns_cells hi5 (by omega)
      obtain ⟨ga, e3, h3⟩ := owns_cells ha5 (by omega)
      obtain ⟨gb, e4, h4⟩ := owns_cells hownb (by omega)
      refine ⟨b, off, gi, ga, gb, e1, e2, e3, e4, fun k hk => ⟨?_, h2 k hk, h3 k hk, h4 k hk⟩⟩
      rw [hcs k hk, ← HY.out]
      simp [List.getD_eq_getElem?_getD, hk]⟩
    have HF4 := Lib.hid F4
    clear b6 b7 hca hown4 howna hownb hi5 ha5 hr5 hr hr6 F4
    generalize (shuf len s ys).1 = xs at HF4
    go_wp2_with fail
    refine (seed_any _ _ _ hca5).mono ?_
    rintro e w6 ⟨rfl, rfl⟩
    go_wp2_with fail
    clear hca5
    go_loopg [10] len (fun g i wr => ∃ k : Nat, k ≤ len ∧ g = len - k ∧ i = .int .i64 k ∧ ∃ d : Nat, wr = w5.drewN d)
    case atStart => exact ⟨0, Nat.zero_le _, rfl, rfl, 0, rfl⟩
    case round =>
      obtain ⟨i, hi, hg, rfl, d, rfl⟩ := hrel
      have HG := Lib.hid hg
      clear hg
      by_cases hlt : i < len
      · obtain ⟨b, off, gi, ga, gb, rfl, rfl, rfl, rfl, hcs⟩ := HF4.out.cells i hlt
        have HC := Lib.hid hcs
        obtain ⟨h1, h2, h3, h4⟩ := hcs i hlt
        clear hcs
        obtain ⟨e, he⟩ : ∃ e, e = ys.getD i 0 := ⟨_, rfl⟩
        obtain ⟨x, hx⟩ : ∃ x, x = xs.getD i 0 := ⟨_, rfl⟩
        rw [← he] at h1 h2
        rw [← hx] at h3 h4
        have HE := Lib.hid he
        clear he hx
        go_wp2_with fail
        go_quiet (fail)
        go_wp2_with fail
        clear h2 h3 h4
        have h0 : ((w5.drewN d).drewN nq).cell? ⟨b, off + i, none⟩ = some (.int .i64 e) := by rw [World.cell?_drewN, World.cell?_drewN]; exact h1
        have HC0 : Hid (∀ k, k < len → ((w5.drewN d).drewN nq).cell? ⟨b, off + k, none⟩ = some (.int .i64 (ys.getD k 0)) ∧ ((w5.drewN d).drewN nq).cell? ⟨ga, k, none⟩ = some (.int .i64 (xs.getD k 0))) := fun k hk => by
          rw [World.cell?_drewN, World.cell?_drewN, World.cell?_drewN, World.cell?_drewN]; exact ⟨(HC.out k hk).1, (HC.out k hk).2.2.1⟩
        have hb0 : Below w.heap.size w ((w5.drewN d).drewN nq) := below_drewN (below_drewN b8 d) nq
        have HD : Hid (∃ d', (w5.drewN d).drewN nq = w5.drewN d') := ⟨d + nq, by simp [World.drewN, Nat.add_assoc]⟩
        clear h1 b8 HC
        generalize ((w5.drewN d).drewN nq) = wo at h0 HC0 hb0 HD ⊢
        go_loopg [11, 12, 13] len (fun g x y q wr => ∃ k : Nat, k ≤ len ∧ g = len - k ∧ q = .int .i64 k ∧ x = .int .i64 ((ys.take k).count e : Nat) ∧ y = .int .i64 ((xs.take k).count e : Nat) ∧ ∃ d : Nat, wr = wo.drewN d)
        case atStart => exact ⟨0, Nat.zero_le _, rfl, rfl, rfl, rfl, 0, rfl⟩
        case round =>
          obtain ⟨k, hk, hg, rfl, rfl, rfl, d', rfl⟩ := hrel
          have HG2 := Lib.hid hg
          clear hg
          by_cases hkl : k < len
          · obtain ⟨hy, hx⟩ := HC0.out k hkl
            have c1 : (ys.take k).count e ≤ k := Nat.le_trans List.count_le_length (by simp; omega)
            have c2 : (xs.take k).count e ≤ k := Nat.le_trans List.count_le_length (by simp; omega)
            have s1 := count_take_succ ys k (by rw [HL.out]; exact hkl) e
            have s2 := count_take_succ xs k (by rw [HF4.out.xl]; exact hkl) e
            obtain ⟨q1, hq1⟩ : ∃ q, q = (ys.take k).count e := ⟨_, rfl⟩
            obtain ⟨q2, hq2⟩ : ∃ q, q = (xs.take k).count e := ⟨_, rfl⟩
            obtain ⟨y, hy'⟩ : ∃ y, y = ys.getD k 0 := ⟨_, rfl⟩
            obtain ⟨x, hx'⟩ : ∃ x, x = xs.getD k 0 := ⟨_, rfl⟩
            rw [← hq1] at c1 s1 ⊢
            rw [← hq2] at c2 s2 ⊢
            rw [← hy'] at hy s1
            rw [← hx'] at hx s2
            have S1 := Lib.hid s1
            have S2 := Lib.hid s2
            clear s1 s2 hq1 hq2 hy' hx'
            by_cases ey : y = e
            · subst ey
              by_cases ex : x = y
              · subst ex
                go_wp2_with fail
                go_quiet (fail)
                go_wp2_with fail
                go_quiet (fail)
                go_wp2_with fail
                go_roundg (len - (k + 1))
                case measure => rw [HG2.out]; omega
                case rel => exact ⟨k + 1, by omega, rfl, by go_num, by rw [S1.out]; simp, by rw [S2.out]; simp, _, rfl⟩
              · have exb : (x == y) = false := by simpa using ex
                go_wp2_with fail
                go_quiet (fail)
                go_wp2_with fail
                go_quiet (fail)
                go_wp2_with fail
                go_roundg (len - (k + 1))
                case measure => rw [HG2.out]; omega
                case rel => exact ⟨k + 1, by omega, rfl, by go_num, by rw [S1.out]; simp, by rw [S2.out, if_neg ex]; go_num, _, rfl⟩
            · have eyb : (y == e) = false := by simpa using ey
              by_cases ex : x = e
              · subst ex
                go_wp2_with fail
                go_quiet (fail)
                go_wp2_with fail
                go_quiet (fail)
                go_wp2_with fail
                go_roundg (len - (k + 1))
                case measure => rw [HG2.out]; omega
                case rel => exact ⟨k + 1, by omega, rfl, by go_num, by rw [S1.out, if_neg ey]; go_num, by rw [S2.out]; simp, _, rfl⟩
              · have exb : (x == e) = false := by simpa using ex
                go_wp2_with fail
                go_quiet (fail)
                go_wp2_with fail
                go_quiet (fail)
                go_wp2_with fail
                go_roundg (len - (k + 1))
                case measure => rw [HG2.out]; omega
                case rel => exact ⟨k + 1, by omega, rfl, by go_num, by rw [S1.out, if_neg ey]; go_num, by rw [S2.out, if_neg ex]; go_num, _, rfl⟩
          · have e1 : ys.take k = ys := List.take_of_length_le (by rw [HL.out]; omega)
            have e2 : xs.take k = xs := List.take_of_length_le (by rw [HF4.out.xl]; omega)
            rw [e1, e2, HF4.out.cnt e]
            clear e1 e2
            go_wp2_with fail
            go_roundg (len - (i + 1))
            case measure => rw [HG.out]; omega
            case rel => exact ⟨i + 1, by omega, rfl, by go_num, by obtain ⟨d2, e2⟩ := HD.out; exact ⟨d2 + d', by rw [e2]; exact drewN2 w5 d2 d'⟩⟩
      · go_wp2_with fail
        go_ret
        exact ⟨rfl, below_drewN b8 d⟩
end Go.Proofs.Ytpnakfagpklkoaa
