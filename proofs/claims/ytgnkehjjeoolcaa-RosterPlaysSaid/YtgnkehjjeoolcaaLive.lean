/- A table that lives: its IDs rise and lie below what was given. The fixed fact that the statements ask first. -/
import Derived.Test.YtgnkehjjeoolcaaFrom
import Derived.Test.YtgnkehjjeoolcaaInsr
namespace Go.Proofs.Ytgnkehjjeoolcaa
open Go.RowKit

/-- the entities of a live table -/
structure Live (es : List Ent) (given : Int) : Prop where
  sorted : Sorted es
  top : ∀ (k : Nat) (e : Ent), es[k]? = some e → e.id ≤ given
  len : es.length ≤ 40
  pos : 0 ≤ given

theorem Live.nil (given : Int) (h : 0 ≤ given) : Live [] given := ⟨Sorted.nil, fun k e h => by simp at h, by simp, h⟩

theorem Live.snoc {es : List Ent} {given : Int} (h : Live es given) (e : Ent) (hl : es.length < 40) : Live (es ++ [e.withId (given + 1)]) (given + 1) := by
  refine ⟨h.sorted.snoc (fun k f hf => ?_), fun k f hf => ?_, by simp; omega, by have := h.pos; omega⟩
  · have := h.top k f hf
    show f.id < given + 1
    omega
  · rcases Nat.lt_or_ge k es.length with hk | hk
    · rw [List.getElem?_append_left hk] at hf
      have := h.top k f hf
      omega
    · rw [List.getElem?_append_right hk] at hf
      have hj : k - es.length = 0 := by
        rcases Nat.eq_zero_or_pos (k - es.length) with h0 | h0
        · exact h0
        · rw [List.getElem?_eq_none (by simp; omega)] at hf; cases hf
      rw [hj] at hf
      simp only [List.getElem?_cons_zero, Option.some.injEq] at hf
      subst hf
      exact Int.le_refl _

theorem Live.erase {es : List Ent} {given : Int} (h : Live es given) (k : Nat) : Live (es.eraseIdx k) given := by
  refine ⟨h.sorted.erase k, fun j e he => ?_, ?_, h.pos⟩
  · rw [List.getElem?_eraseIdx] at he
    split at he
    · exact h.top _ e he
    · exact h.top _ e he
  · have := List.length_eraseIdx_le es k
    have := h.len
    omega

theorem Live.set {es : List Ent} {given : Int} (h : Live es given) {k : Nat} {e f : Ent} (hk : es[k]? = some f) (he : f.id = e.id) : Live (es.set k e) given := by
  refine ⟨h.sorted.set hk he, fun j a ha => ?_, by rw [List.length_set]; exact h.len, h.pos⟩
  rw [List.getElem?_set] at ha
  split at ha
  · rename_i hkj
    subst hkj
    split at ha
    · simp only [Option.some.injEq] at ha; subst ha; have := h.top k f hk; omega
    · cases ha
  · exact h.top j a ha

theorem Live.rem {es : List Ent} {given : Int} (h : Live es given) (id : Int) : Live (remL es id) given := by
  unfold remL
  split
  · exact h.erase _
  · exact h

theorem Live.setL {es : List Ent} {given : Int} (h : Live es given) (e : Ent) : Live (setL es e) given := by
  unfold Ytgnkehjjeoolcaa.setL
  split
  · rename_i k hk
    obtain ⟨f, h1, h2⟩ := idx_some hk
    exact h.set h1 h2
  · exact h

set_option maxHeartbeats 1000000 in
theorem awake_any (w : World) :
    Calls Try.prog 7 #[] w fun e w' => e = .returned (.bool true) ∧ Below w.heap.size w w' := by
  go_enter Try.func7, Try.ntmps7
  go_wp2_with fail
  refine (new_any w w.heap.size (Nat.le_refl _)).mono ?_
  rintro r w1 ⟨rfl, ht, hb⟩
  have HT := Lib.hid ht
  clear ht
  go_wp2_with fail
  change Calls Try.prog 14 #[_, .agg (Ent.cells ⟨0, 0, 1, 0, 0, 0, 0, 0, 0, 0, 0⟩).toArray] _ _
  refine (insert_ok w1 w.heap.size w.heap.size _ [] 0 HT.out ⟨0, 0, 1, 0, 0, 0, 0, 0, 0, 0, 0⟩ (by simp) (by omega)).mono ?_
  rintro r w2 ⟨v2, rfl, ht, hT, _⟩
  have b2 : Below w.heap.size w w2 := hb.trans (hT.below hb.size (fun k hk => by rcases hk with rfl | hk; exact Nat.le_refl _; simp [Value.ownBlock] at hk))
  have HT2 := Lib.hid ht
  clear ht hT hb HT
  go_wp2_with fail
  have hs : Sorted ([] ++ [Ent.withId ⟨0, 0, 1, 0, 0, 0, 0, 0, 0, 0, 0⟩ (0 + 1)]) := Sorted.nil.snoc (fun k f hf => by simp at hf)
  refine (get_any w2 w.heap.size w.heap.size _ _ (0 + 1) HT2.out hs (by simp) 1).mono ?_
  rintro r w3 ⟨rfl, hb⟩
  have hg : getE ([] ++ [Ent.withId ⟨0, 0, 1, 0, 0, 0, 0, 0, 0, 0, 0⟩ (0 + 1)]) 1 = ⟨1, 0, 1, 0, 0, 0, 0, 0, 0, 0, 0⟩ := rfl
  have hc : getC ([] ++ [Ent.withId ⟨0, 0, 1, 0, 0, 0, 0, 0, 0, 0, 0⟩ (0 + 1)]) 1 = 0 := rfl
  rw [hg, hc]
  have HT3 := Lib.hid (tab_below HT2.out hb)
  have b3 : Below w.heap.size w w3 := b2.trans (hb.mono b2.size)
  clear hg hc hs hb b2 HT2
  have TZ := Lib.hid (there_new w3 #[.int .i64 0, .int .i64 0, .int .i64 0, .int .i64 0, .int .i64 0, .int .i64 0, .int .i64 0, .int .i64 0, .int .i64 0, .int .i64 0, .int .i64 0] 32 11 rfl)
  obtain ⟨wz, hwz⟩ : ∃ wz, ((w3.alloc (.cells #[.int .i64 0, .int .i64 0, .int .i64 0, .int .i64 0, .int .i64 0, .int .i64 0, .int .i64 0, .int .i64 0, .int .i64 0, .int .i64 0, .int .i64 0] 32)).setCells w3.heap.size 0 (Ent.cells ⟨1, 0, 1, 0, 0, 0, 0, 0, 0, 0, 0⟩)) = wz := ⟨_, rfl⟩
  have RZ : wz.rangeAt w3.heap.size 0 (Ent.cells ⟨1, 0, 1, 0, 0, 0, 0, 0, 0, 0, 0⟩) := by rw [← hwz]; exact World.rangeAt_setCells_same _ _ _ _ TZ.out
  have T0 : Touch w3 wz (fun _ => False) := by rw [← hwz]; exact Touch.setCells (S := fun _ => False) _ (.inr (Nat.le_refl _)) _ _ _ ((Touch.refl _ _).alloc _)
  have HWZ := Lib.hid hwz
  have r2 : wz.cell? ⟨w3.heap.size, 2, none⟩ = some (.int .i64 1) := RZ 2 _ rfl
  have HT4 := Lib.hid (HT3.out.touch T0 (fun h => h) (fun _ _ h => h))
  have bz : Below w.heap.size w wz := b3.trans (T0.below b3.size (fun _ h => h.elim))
  clear RZ T0 hwz HT3 b3
  go_wp2_with (refine store_ent rfl (.tmp 4) (.tmp 18) rfl _ _ _ rfl rfl TZ.out ?_; rw [HWZ.out])
  refine (next_any wz w.heap.size 1 HT4.out.c1 (by omega)).mono ?_
  rintro r w4 ⟨rfl, rfl⟩
  go_wp2_with fail
  go_ret
  exact ⟨rfl, bz⟩
end Go.Proofs.Ytgnkehjjeoolcaa
