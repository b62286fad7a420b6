/- The contracts of Of, the program's and the document's. -/
import Derived.Test.YtgnkehjjeoolcaaAtr
namespace Go.Proofs.Ytgnkehjjeoolcaa
open Go.RowKit

/-- an owner's IDs -/
def ofL (es : List Ent) (o : Int) : List Int := (es.filter (fun e => e.owner == o)).map (·.id)

theorem ofL_len (es : List Ent) (o : Int) : (ofL es o).length ≤ es.length := by
  rw [ofL, List.length_map]; exact List.length_filter_le _ _

theorem ofL_take (es : List Ent) (o : Int) (k : Nat) (e : Ent) (he : es[k]? = some e) : ofL (es.take (k + 1)) o = ofL (es.take k) o ++ if e.owner == o then [e.id] else [] := by
  have hk := (List.getElem?_eq_some_iff.1 he).1
  have he' : es[k] = e := (List.getElem?_eq_some_iff.1 he).2
  rw [List.take_succ_eq_append_getElem hk, he', ofL, List.filter_append, List.map_append]
  cases h : e.owner == o <;> simp [ofL, h]

/-- what a look at an owner leaves -/
def OfPost (es : List Ent) (o : Int) (w : World) (r : Ending) (w' : World) : Prop :=
  ∃ v, r = .returned v ∧ w'.ownsRow w.heap.size 3 1 v (ofL es o).length ((ofL es o).map (Value.int .i64)) ∧ Below w.heap.size w w'

set_option maxHeartbeats 1000000 in
theorem of_nil (w : World) (o : Int) :
    Calls Try.prog 19 #[.pointer none, .int .i64 o] w fun r w' => r = .returned (.slice none 0 0) ∧ w = w' := by
  go_enter Try.func19, Try.ntmps19
  go_wp2_with fail
  refine (list_nil _).mono ?_
  rintro r w1 ⟨rfl, rfl⟩
  go_wp2_with fail
  refine wp_loop_rounds 1 ?_
  rw [rounds_succ]
  go_wp2_with fail
  refine bodyPost_ret (v := .slice none 0 0) (by simp [results, Try.results19, go_sem]) rfl ?_
  exact ⟨rfl, rfl⟩

set_option maxHeartbeats 2000000 in
theorem of_any (w : World) (B p : Nat) (v : Value) (es : List Ent) (given : Int) (ht : Tab w B p v es given) (hl : es.length ≤ 100000) (o : Int) :
    Calls Try.prog 19 #[.pointer (some ⟨p, 0, none⟩), .int .i64 o] w (OfPost es o w) := by
  obtain ⟨i0, hi, hz0, hz1, hz2⟩ := info_parts info3
  have HT := Lib.hid ht
  clear ht
  go_enter Try.func19, Try.ntmps19
  go_wp2_with fail
  refine (list_any _ B p v es given HT.out hl).mono ?_
  rintro r w1 ⟨v1, rfl, hown, b1⟩
  obtain ⟨n, hn⟩ : ∃ n, es.length = n := ⟨_, rfl⟩
  have HN := Lib.hid hn
  rw [hn] at hl
  obtain ⟨ao, cap, rfl, _, _⟩ := owns_form hown
  have hgl := hown.lt
  have HOWN := Lib.hid hown
  rw [hn] at hgl HOWN ⊢
  have HB := Lib.hid b1
  clear hown hn b1
  go_wp2_with fail
  go_loopg [5, 11] n (fun m vo i wr => ∃ k : Nat, k ≤ n ∧ m = n - k ∧ i = .int .i64 k ∧ wr.ownsRow w1.heap.size 3 1 vo (ofL (es.take k) o).length ((ofL (es.take k) o).map (Value.int .i64)) ∧ Below w1.heap.size w1 wr)
  case atStart => exact ⟨0, Nat.zero_le _, rfl, rfl, World.ownsRow_nil _ _ _ _, Below.refl _ _⟩
  case round =>
    obtain ⟨k, hk, hm, rfl, hvo, hb⟩ := hrel
    have HM := Lib.hid hm
    clear hm
    by_cases hlt : k < n
    · have hke : k < es.length := by rw [HN.out]; exact hlt
      obtain ⟨e, he⟩ : ∃ e, es[k]? = some e := ⟨_, List.getElem?_eq_getElem hke⟩
      obtain ⟨g, rfl, hg⟩ := owns_some HOWN.out (by omega)
      have hg1 := (hgl g rfl).2
      have HR := Lib.hid (range_below hb (owns_range (by rw [HN.out]; exact HOWN.out) he) hg1)
      have HE := Lib.hid he
      have hst := ofL_take es o k e he
      have HST := Lib.hid hst
      have TZ := Lib.hid (there_new wr #[.int .i64 0, .int .i64 0, .int .i64 0, .int .i64 0, .int .i64 0, .int .i64 0, .int .i64 0, .int .i64 0, .int .i64 0, .int .i64 0, .int .i64 0] 32 11 rfl)
      obtain ⟨wz, hwz⟩ : ∃ wz, ((wr.alloc (.cells #[.int .i64 0, .int .i64 0, .int .i64 0, .int .i64 0, .int .i64 0, .int .i64 0, .int .i64 0, .int .i64 0, .int .i64 0, .int .i64 0, .int .i64 0] 32)).setCells wr.heap.size 0 e.cells) = wz := ⟨_, rfl⟩
      have RZ : wz.rangeAt wr.heap.size 0 e.cells := by rw [← hwz]; exact World.rangeAt_setCells_same _ _ _ _ TZ.out
      have T0 : Touch wr wz (fun _ => False) := by rw [← hwz]; exact Touch.setCells (S := fun _ => False) _ (.inr (Nat.le_refl _)) _ _ _ ((Touch.refl _ _).alloc _)
      have HWZ := Lib.hid hwz
      have r0 : wz.cell? ⟨wr.heap.size, 0, none⟩ = some (.int .i64 e.id) := RZ 0 _ rfl
      have r1 : wz.cell? ⟨wr.heap.size, 1, none⟩ = some (.int .i64 e.owner) := RZ 1 _ rfl
      have HVO := Lib.hid (T0.owns hvo (fun _ _ h => h))
      have hbz : Below w1.heap.size w1 wz := hb.trans (T0.below hb.size (fun _ h => h.elim))
      have HBZ := Lib.hid hbz
      have hlo : (ofL (es.take k) o).length ≤ k := Nat.le_trans (ofL_len _ _) (by simp; omega)
      have hszz : w1.heap.size ≤ wz.heap.size := hbz.size
      clear he hke hst RZ T0 hwz hvo hbz hb
      by_cases ho : e.owner = o
      · have q1 : (e.owner == o) = true := by simpa using ho
        have hb1 : (ofL (es.take k) o).length + 1 ≤ maxLen := by unfold maxLen; omega
        have hb2 : ((ofL (es.take k) o).length + 1) * 8 ≤ 140737488355328 := by omega
        have hnil : Hid ((ofL (es.take (k + 1)) o) = ofL (es.take k) o ++ [e.id]) := by rw [Hid, HST.out, q1]; rfl
        have hsz2 : w1.heap.size ≤ (wz.alloc (.cells #[.int .i64 e.id] 3)).heap.size := Nat.le_trans hszz (by simp)
        clear ho
        go_wp2_with (first | (refine load_ent rfl (.tmp 13) rfl _ _ rfl e HR.out ?_) | (refine store_ent rfl (.tmp 7) (.tmp 14) rfl _ _ e rfl rfl TZ.out ?_; rw [HWZ.out]) | (at_builtin; refine wpList_append_own _ rfl (.tmp 19) (.tmp 22) 51 rfl w1.heap.size 3 i0 (.int .i64 0) 1 8 Try.underlying51 hi hz0 hz1 hz2 rfl (by decide) _ _ _ rfl (HVO.out.alloc _) ⟨wz.heap.size, 0, none⟩ 1 1 [.int .i64 e.id] rfl rfl (cell_one_new _ _ _) (ints_oneCell .i64 [e.id]) hb1 hb2 hsz2 ?_))
        intro v' w2 hown2 hgr2 _
        have hown3 : w2.ownsRow w1.heap.size 3 1 v' (ofL (es.take (k + 1)) o).length ((ofL (es.take (k + 1)) o).map (Value.int .i64)) := by
          rw [hnil.out, List.length_append, List.map_append]; exact hown2
        have hb3 : Below w1.heap.size w1 w2 := (HBZ.out.alloc hszz _).grown hgr2 hsz2 (fun j hj => by
          rcases owns_ge HVO.out with h | ⟨g1, h, h2⟩
          · rw [h] at hj; cases hj
          · rw [h] at hj; simp only [Option.some.injEq] at hj; omega)
        clear hown2 hgr2
        go_wp2_with fail
        go_roundg (n - (k + 1))
        case measure => rw [HM.out]; omega
        case rel => exact ⟨k + 1, by omega, rfl, by go_num, hown3, hb3⟩
      · have q1 : (e.owner == o) = false := by simpa using ho
        have hnil : Hid ((ofL (es.take (k + 1)) o) = ofL (es.take k) o) := by rw [Hid, HST.out, q1]; simp
        clear ho
        go_wp2_with (first | (refine load_ent rfl (.tmp 13) rfl _ _ rfl e HR.out ?_) | (refine store_ent rfl (.tmp 7) (.tmp 14) rfl _ _ e rfl rfl TZ.out ?_; rw [HWZ.out]))
        go_roundg (n - (k + 1))
        case measure => rw [HM.out]; omega
        case rel => exact ⟨k + 1, by omega, rfl, by go_num, by rw [hnil.out]; exact HVO.out, HBZ.out⟩
    · have hkn : k = n := by omega
      have e1 : es.take k = es := List.take_of_length_le (by rw [HN.out]; omega)
      rw [e1] at hvo
      clear hkn e1
      go_wp2_with fail
      refine bodyPost_ret (v := u5) (by simp [results, Try.results19, go_sem]) rfl ?_
      exact ⟨_, rfl, owns_base hvo HB.out.size, HB.out.trans (hb.mono HB.out.size)⟩
end Go.Proofs.Ytgnkehjjeoolcaa
