/- Two lists of one content are the same; what is asked is three numbers. -/
import Derived.Test.YtpdanppnpgfkeaaRdec
import Derived.Laws.StructEq
namespace Go.Proofs.Ytpdanppnpgfkeaa
open Go.RowKit Go.Maps

theorem neq_mt (m : Mt) (w : World) : (binOp .neq 64 (.agg #[.int .i64 m.r, .int .i64 m.q, .int .i64 m.x, .int .i64 m.y]) (.agg #[.int .i64 m.r, .int .i64 m.q, .int .i64 m.x, .int .i64 m.y])).run Try.prog w = .ok (.bool false) w := by
  simp [binOp, Op.equal, Op.maxDepth, go_sem]

theorem owns_formG {w : World} {B e sz : Nat} {v : Value} {n : Nat} {xs : List Value} (h : w.ownsRow B e sz v n xs) : ∃ ao cap, v = .slice ao n cap := by
  rcases h.2 with ⟨rfl, h2⟩ | ⟨g, cap, cur, hv, _⟩
  · exact ⟨none, 0, by rw [h2]⟩
  · exact ⟨_, _, hv⟩

/-- a list of matches, by its cells, whatever the type of its elements is called -/
theorem owns_mt {w : World} {B e : Nat} {v : Value} {l : List Mt} (h : w.ownsRow B e 4 v l.length (msCells l)) (hl : 0 < l.length) :
    ∃ g cap, v = .slice (some ⟨g, 0, none⟩) l.length cap ∧ B ≤ g ∧ g < w.heap.size ∧ ∀ (i : Nat) (m : Mt), l[i]? = some m → w.cell? ⟨g, i * 4, none⟩ = some (.int .i64 m.r) ∧ w.cell? ⟨g, i * 4 + 1, none⟩ = some (.int .i64 m.q) ∧ w.cell? ⟨g, i * 4 + 2, none⟩ = some (.int .i64 m.x) ∧ w.cell? ⟨g, i * 4 + 3, none⟩ = some (.int .i64 m.y) := by
  obtain ⟨g, cap, rfl, h1, h2⟩ := owns_some h hl
  refine ⟨g, cap, rfl, h1, h2, fun i m hm => ?_⟩
  have hi : i < l.length := (List.getElem?_eq_some_iff.1 hm).1
  have hget : ∀ (l : List Mt) (i j : Nat) (m : Mt), l[i]? = some m → j < 4 → (msCells l)[i * 4 + j]? = m.cells[j]? := by
    intro l
    induction l with
    | nil => intro i j m h; simp at h
    | cons a l ih =>
      intro i j m h hj
      have hc : msCells (a :: l) = a.cells ++ msCells l := by simp [msCells]
      rw [hc]
      cases i with
      | zero =>
        simp at h
        subst h
        rw [List.getElem?_append_left (by simp [Mt.cells]; omega), Nat.zero_mul, Nat.zero_add]
      | succ i =>
        simp at h
        rw [List.getElem?_append_right (by simp [Mt.cells]; omega)]
        have e : (i + 1) * 4 + j - a.cells.length = i * 4 + j := by simp [Mt.cells]; omega
        rw [e]
        exact ih i j m h hj
  have hcell : ∀ j, j < 4 → w.cell? ⟨g, i * 4 + j, none⟩ = m.cells[j]? := fun j hj => by
    rw [h.cellAt (i * 4 + j) (by omega)]
    exact hget l i j m hm hj
  exact ⟨hcell 0 (by omega), hcell 1 (by omega), hcell 2 (by omega), hcell 3 (by omega)⟩

set_option maxRecDepth 20000 in
set_option maxHeartbeats 2000000 in
theorem same_any (w : World) (A B : Nat) (a b : Value) (l : List Mt) (ha : w.ownsRow A 50 4 a l.length (msCells l)) (hb : w.ownsRow B 64 4 b l.length (msCells l)) (hl : l.length ≤ 100) :
    Calls Try.prog 9 #[a, b] w fun e w' => e = .returned (.bool true) ∧ Below w.heap.size w w' := by
  have HA := Lib.hid ha
  have HB := Lib.hid hb
  obtain ⟨a0, ca, rfl⟩ := owns_formG ha
  obtain ⟨b0, cb, rfl⟩ := owns_formG hb
  obtain ⟨n, hn⟩ : ∃ n, l.length = n := ⟨_, rfl⟩
  have HN := Lib.hid hn
  rw [hn] at hl ⊢
  clear ha hb hn
  go_enter Try.func9, Try.ntmps9
  go_wp2_with fail
  go_loopg [5] n (fun m i wr => ∃ k : Nat, k ≤ n ∧ m = n - k ∧ i = .int .i64 k ∧ ∃ d, wr = w.drewN d)
  case atStart => exact ⟨0, Nat.zero_le _, rfl, rfl, 0, rfl⟩
  case round =>
    obtain ⟨k, hk, hm, rfl, d, rfl⟩ := hrel
    have HM := Lib.hid hm
    clear hm
    by_cases hlt : k < n
    · obtain ⟨g, cg, hv, _, _, hcl⟩ := owns_mt HA.out (by rw [HN.out]; omega)
      obtain ⟨g', cg', hv', _, _, hcl'⟩ := owns_mt HB.out (by rw [HN.out]; omega)
      simp only [Value.slice.injEq, true_and] at hv hv'
      obtain ⟨rfl, rfl⟩ := hv
      obtain ⟨rfl, rfl⟩ := hv'
      obtain ⟨m, hm⟩ : ∃ m, l[k]? = some m := ⟨_, List.getElem?_eq_getElem (by rw [HN.out]; exact hlt)⟩
      obtain ⟨r0, r1, r2, r3⟩ := hcl k m hm
      obtain ⟨s0, s1, s2, s3⟩ := hcl' k m hm
      have hneq := neq_mt m
      clear hcl hcl' hm
      go_wp2_with fail
      go_quiet (fail)
      go_wp2_with fail
      go_roundg (n - (k + 1))
      case measure => rw [HM.out]; omega
      case rel => exact ⟨k + 1, by omega, rfl, by go_num, _, rfl⟩
    · go_wp2_with fail
      go_ret
      exact ⟨rfl, below_drewN _ d⟩

def Asked (w : World) (e : Ending) (w' : World) : Prop := ∃ x y z : Int, e = .returned (.tuple #[.int .i64 x, .int .i64 y, .int .i64 z]) ∧ Below w.heap.size w w'

theorem asked_end {w w' : World} (x y z : Int) (h : Below w.heap.size w w') : Asked w (.returned (.tuple #[.int .i64 x, .int .i64 y, .int .i64 z])) w' := ⟨x, y, z, rfl, h⟩

set_option maxRecDepth 20000 in
set_option maxHeartbeats 2000000 in
theorem asked_any (w : World) (A : Nat) (v : Value) (l : List Mt) (hv : w.ownsRow A 50 4 v l.length (msCells l)) (hl : l.length ≤ 100) (o1 o2 o3 o4 o5 : Int) (wo : (Lit.int .i64 o1).wf = true) :
    Calls Try.prog 18 #[v, .agg #[.int .i64 o1, .int .i64 o2, .int .i64 o3, .int .i64 o4, .int .i64 o5]] w (Asked w) := by
  have ho : -9223372036854775808 ≤ o1 ∧ o1 ≤ 9223372036854775807 := by simpa [Lit.wf, IntKind.min, IntKind.max, IntKind.signed, IntKind.bits] using wo
  have HV := Lib.hid hv
  obtain ⟨a0, ca, rfl⟩ := owns_formG hv
  clear hv wo
  obtain ⟨w1, hw1⟩ : ∃ w1, w.alloc (.cells #[.int .i64 o1, .int .i64 o2, .int .i64 o3, .int .i64 o4, .int .i64 o5] 44) = w1 := ⟨_, rfl⟩
  have b1 : Below w.heap.size w w1 := by rw [← hw1]; exact (Below.refl _ _).alloc (Nat.le_refl _) _
  have c0 : w1.cell? ⟨w.heap.size, 0, none⟩ = some (.int .i64 o1) := by rw [← hw1]; exact World.cell?_alloc_at _ _ _ _ rfl
  have c1 : w1.cell? ⟨w.heap.size, 1, none⟩ = some (.int .i64 o2) := by rw [← hw1]; exact World.cell?_alloc_at _ _ _ _ rfl
  have c2 : w1.cell? ⟨w.heap.size, 2, none⟩ = some (.int .i64 o3) := by rw [← hw1]; exact World.cell?_alloc_at _ _ _ _ rfl
  have c3 : w1.cell? ⟨w.heap.size, 3, none⟩ = some (.int .i64 o4) := by rw [← hw1]; exact World.cell?_alloc_at _ _ _ _ rfl
  have c4 : w1.cell? ⟨w.heap.size, 4, none⟩ = some (.int .i64 o5) := by rw [← hw1]; exact World.cell?_alloc_at _ _ _ _ rfl
  have HB1 := Lib.hid b1
  have HW1 := Lib.hid hw1
  clear b1 hw1
  obtain ⟨len, hlen⟩ : ∃ len, l.length = len := ⟨_, rfl⟩
  have HLEN := Lib.hid hlen
  rw [hlen] at hl ⊢
  clear hlen
  go_enter Try.func18, Try.ntmps18
  go_wp2_with fail
  rw [HW1.out]
  go_quiet (fail)
  have hbn := HB1.out.trans ((below_drewN w1 nq).mono HB1.out.size)
  have HBN := Lib.hid hbn
  have hszq : w.heap.size < (w1.drewN nq).heap.size := World.block_lt_of_cell? w1 _ c0
  have d0 : (w1.drewN nq).cell? ⟨w.heap.size, 0, none⟩ = some (.int .i64 o1) := c0
  have d3 : (w1.drewN nq).cell? ⟨w.heap.size, 3, none⟩ = some (.int .i64 o4) := c3
  clear hbn c0 c1 c2 c3 c4 HB1 HW1
  generalize w1.drewN nq = wq at *
  by_cases h0 : 0 ≤ o1
  · have t0 : decide (0 ≤ o1) = true := by simpa using h0
    by_cases h1 : 0 < len
    · have t1 : (0 : Int) < len := by omega
      have t2 : ((len : Int) == 0) = false := by simp; omega
      obtain ⟨o, rfl⟩ := Int.eq_ofNat_of_zero_le h0
      obtain ⟨t, ht⟩ : ∃ t, o % len = t := ⟨_, rfl⟩
      have htl : t < len := by rw [← ht]; exact Nat.mod_lt _ h1
      have htI : (t : Int) < len := by omega
      have hmod : (o : Int) % (len : Int) = t := by rw [← ht]; norm_cast
      obtain ⟨g, cg, hv, _, hgl, hcl⟩ := owns_mt HV.out (by rw [HLEN.out]; exact h1)
      simp only [Value.slice.injEq, true_and] at hv
      obtain ⟨rfl, rfl⟩ := hv
      obtain ⟨m, hm⟩ : ∃ m, l[t]? = some m := ⟨_, List.getElem?_eq_getElem (by rw [HLEN.out]; exact htl)⟩
      obtain ⟨m0, m1, m2, m3⟩ := hcl t m hm
      have p0 := (HBN.out.cell (p := ⟨g, t * 4, none⟩) hgl).trans m0
      have p1 := (HBN.out.cell (p := ⟨g, t * 4 + 1, none⟩) hgl).trans m1
      have p2 := (HBN.out.cell (p := ⟨g, t * 4 + 2, none⟩) hgl).trans m2
      have p3 := (HBN.out.cell (p := ⟨g, t * 4 + 3, none⟩) hgl).trans m3
      obtain ⟨w2, hw2⟩ : ∃ w2, wq.alloc (.cells #[.int .i64 m.r, .int .i64 m.q, .int .i64 m.x, .int .i64 m.y] 50) = w2 := ⟨_, rfl⟩
      have b2 : Below w.heap.size w w2 := by rw [← hw2]; exact HBN.out.alloc HBN.out.size _
      have z0 : w2.cell? ⟨wq.heap.size, 0, none⟩ = some (.int .i64 m.r) := by rw [← hw2]; exact World.cell?_alloc_at _ _ _ _ rfl
      have z1 : w2.cell? ⟨wq.heap.size, 1, none⟩ = some (.int .i64 m.q) := by rw [← hw2]; exact World.cell?_alloc_at _ _ _ _ rfl
      have z2 : w2.cell? ⟨wq.heap.size, 2, none⟩ = some (.int .i64 m.x) := by rw [← hw2]; exact World.cell?_alloc_at _ _ _ _ rfl
      have z3 : w2.cell? ⟨wq.heap.size, 3, none⟩ = some (.int .i64 m.y) := by rw [← hw2]; exact World.cell?_alloc_at _ _ _ _ rfl
      have c23 : w2.cell? ⟨w.heap.size, 3, none⟩ = some (.int .i64 o4) := by rw [← hw2, World.cell?_alloc_past _ _ _ hszq]; exact d3
      have HW2 := Lib.hid hw2
      have HB2 := Lib.hid b2
      clear hm hcl m0 m1 m2 m3 ht hw2 b2 htl
      go_wp2_with fail
      rw [HW2.out]
      go_quiet (fail)
      have HBM := Lib.hid (HB2.out.trans ((below_drewN w2 nq).mono HB2.out.size))
      by_cases e0 : o4 = 0
      · have s0 : (o4 == 0) = true := by simpa using e0
        clear e0
        go_wp2_with fail
        refine bodyPost_ret (v := .tuple #[.int .i64 m.r, .int .i64 m.q, .int .i64 m.x]) (by simp [results, Try.results18, go_sem]) rfl ?_
        exact asked_end _ _ _ HBM.out
      · have s0 : (o4 == 0) = false := by simpa using e0
        by_cases e1 : o4 = 1
        · have s1 : (o4 == 1) = true := by simpa using e1
          clear e0 e1
          go_wp2_with fail
          refine bodyPost_ret (v := .tuple #[.int .i64 m.r, .int .i64 m.q, .int .i64 m.y]) (by simp [results, Try.results18, go_sem]) rfl ?_
          exact asked_end _ _ _ HBM.out
        · have s1 : (o4 == 1) = false := by simpa using e1
          clear e0 e1
          go_wp2_with fail
          refine bodyPost_ret (v := .tuple #[.int .i64 m.r, .int .i64 m.q, .int .i64 o5]) (by simp [results, Try.results18, go_sem]) rfl ?_
          exact asked_end _ _ _ HBM.out
    · have t1 : decide ((0 : Int) < len) = false := by simp; omega
      go_wp2_with fail
      refine bodyPost_ret (v := .tuple #[.int .i64 o2, .int .i64 o3, .int .i64 o5]) (by simp [results, Try.results18, go_sem]) rfl ?_
      exact asked_end _ _ _ HBN.out
  · have t0 : decide (0 ≤ o1) = false := by simpa using h0
    go_wp2_with fail
    refine bodyPost_ret (v := .tuple #[.int .i64 o2, .int .i64 o3, .int .i64 o5]) (by simp [results, Try.results18, go_sem]) rfl ?_
    exact asked_end _ _ _ HBN.out
end Go.Proofs.Ytpdanppnpgfkeaa
