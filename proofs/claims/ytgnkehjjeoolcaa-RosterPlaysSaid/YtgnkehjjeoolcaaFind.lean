/- The contracts of find: the program's (by halves) and the document's (from the front). -/
import Derived.Test.YtgnkehjjeoolcaaBasic
import Derived.Test.YtgnkehjjeoolcaaIdx
namespace Go.Proofs.Ytgnkehjjeoolcaa
open Go.RowKit

/-- what a search leaves -/
def Found (es : List Ent) (id : Int) (w : World) (e : Ending) (w' : World) : Prop :=
  ∃ (m : Nat) (f : Bool), e = .returned (.tuple #[.int .i64 m, .bool f]) ∧ (f = true → idx es id = some m) ∧ (f = false → idx es id = none) ∧ Below w.heap.size w w'

theorem cmp_neg (a b : Int) : (cmpI a b < 0) = (a < b) := by
  unfold cmpI; split <;> rename_i h
  · simp [h]
  · split <;> simp [h]

set_option maxHeartbeats 1000000 in
theorem search_some (g cap : Nat) (es : List Ent) (w : World) (hs : Sorted es) (hl : es.length ≤ 100000) (B : Nat) (hown : w.ownsRow B 32 11 (.slice (some ⟨g, 0, none⟩) es.length cap) es.length (cellsOf es)) (id : Int) :
    Calls Try.prog 32 #[.slice (some ⟨g, 0, none⟩) es.length cap, .int .i64 id, .func (.func 33) #[] #[]] w (Found es id w) := by
  obtain ⟨n, hn⟩ : ∃ n, n = es.length := ⟨_, rfl⟩
  have HN := Lib.hid hn
  rw [← hn] at hl ⊢
  clear hn
  have hgl : g < w.heap.size := (hown.lt g rfl).2
  have HO := Lib.hid hown
  clear hown
  go_enter Try.func32, Try.ntmps32
  go_wp2_with fail
  go_loopg [9, 10] n (fun m i j wr => ∃ a b : Nat, a ≤ b ∧ b ≤ n ∧ m = b - a ∧ i = .int .i64 a ∧ j = .int .i64 b ∧ (∀ (k : Nat) (e : Ent), k < a → es[k]? = some e → e.id < id) ∧ (∀ (k : Nat) (e : Ent), b ≤ k → es[k]? = some e → ¬ e.id < id) ∧ Below w.heap.size w wr)
  case atStart => exact ⟨0, n, Nat.zero_le _, Nat.le_refl _, rfl, rfl, rfl, fun k e h => by omega, fun k e h he => by have := (List.getElem?_eq_some_iff.1 he).1; rw [← HN.out] at this; omega, Below.refl _ _⟩
  case round =>
    obtain ⟨a, b, hab, hb, hm, rfl, rfl, h1, h2, hbel⟩ := hrel
    have HM := Lib.hid hm
    have H1 := Lib.hid h1
    have H2 := Lib.hid h2
    clear hm h1 h2
    by_cases hlt : a < b
    · have hk : (a + b) / 2 < es.length := by rw [← HN.out]; omega
      obtain ⟨e, he⟩ : ∃ e, es[(a + b) / 2]? = some e := ⟨_, List.getElem?_eq_getElem hk⟩
      have hr : wr.rangeAt g ((a + b) / 2 * 11) e.cells := fun j v hj => (hbel.cell (p := ⟨g, (a + b) / 2 * 11 + j, none⟩) hgl).trans (owns_range HO.out he j v hj)
      have hk2 : (a + b) / 2 < n := by omega
      have HE := Lib.hid he
      have HR := Lib.hid hr
      clear he hr hk
      go_wp2_with (refine load_ent rfl _ rfl _ _ rfl e HR.out ?_)
      refine (cmp_any e id wr).mono ?_
      rintro r w4 ⟨rfl, hw⟩
      have hb4 : Below w.heap.size w w4 := by rw [hw]; exact hbel.alloc hbel.size _
      clear hw HR
      by_cases hc : e.id < id
      · have hneg : (cmpI e.id id < 0) = True := by rw [cmp_neg]; simpa using hc
        go_wp2_with fail
        go_roundg (b - ((a + b) / 2 + 1))
        case measure => rw [HM.out]; omega
        case rel =>
          refine ⟨(a + b) / 2 + 1, b, by omega, hb, rfl, by go_num, rfl, fun k f hk hf => ?_, H2.out, hb4⟩
          rcases Nat.lt_or_ge k ((a + b) / 2) with h | h
          · have := hs k ((a + b) / 2) f e h hf HE.out; omega
          · have hkk : k = (a + b) / 2 := by omega
            rw [hkk, HE.out] at hf
            simp only [Option.some.injEq] at hf
            subst hf; exact hc
      · have hneg : (cmpI e.id id < 0) = False := by rw [cmp_neg]; simpa using hc
        go_wp2_with fail
        go_roundg ((a + b) / 2 - a)
        case measure => rw [HM.out]; omega
        case rel =>
          refine ⟨a, (a + b) / 2, by omega, by omega, rfl, rfl, by go_num, H1.out, fun k f hk hf => ?_, hb4⟩
          rcases Nat.lt_or_ge ((a + b) / 2) k with h | h
          · have := hs ((a + b) / 2) k e f h HE.out hf; omega
          · have hkk : k = (a + b) / 2 := by omega
            rw [hkk, HE.out] at hf
            simp only [Option.some.injEq] at hf
            subst hf; exact hc
    · have hab2 : b = a := by omega
      subst hab2
      by_cases hbn : b < n
      · have hk : b < es.length := by rw [← HN.out]; omega
        obtain ⟨e, he⟩ : ∃ e, es[b]? = some e := ⟨_, List.getElem?_eq_getElem hk⟩
        have hr : wr.rangeAt g (b * 11) e.cells := fun j v hj => (hbel.cell (p := ⟨g, b * 11 + j, none⟩) hgl).trans (owns_range HO.out he j v hj)
        have HE := Lib.hid he
        have HR := Lib.hid hr
        clear he hr hk
        go_wp2_with (refine load_ent_g rfl _ rfl _ _ rfl e HR.out ?_)
        refine (cmp_any e id wr).mono ?_
        rintro r w4 ⟨rfl, hw⟩
        have hb4 : Below w.heap.size w w4 := by rw [hw]; exact hbel.alloc hbel.size _
        clear hw HR
        by_cases hc : e.id = id
        · have h0 : (cmpI e.id id == 0) = true := by simp [cmpI, hc]
          have HC := Lib.hid hc
          clear hc
          go_wp2_with fail
          go_ret2
          exact ⟨b, true, rfl, fun _ => idx_of hs HE.out HC.out, fun h => by simp at h, hb4⟩
        · have h0 : (cmpI e.id id == 0) = false := by
            have : ¬ cmpI e.id id = 0 := by unfold cmpI; split; omega; split; omega; omega
            simpa using this
          have HC := Lib.hid hc
          clear hc
          go_wp2_with fail
          go_ret2
          refine ⟨b, false, rfl, fun h => by simp at h, fun _ => idx_none.2 fun k f hf => ?_, hb4⟩
          rcases Nat.lt_trichotomy k b with h | h | h
          · have := H1.out k f h hf; omega
          · subst h; rw [HE.out] at hf; simp only [Option.some.injEq] at hf; subst hf; exact HC.out
          · have h1 := hs b k e f h HE.out hf
            have h2 := H2.out b e (Nat.le_refl _) HE.out
            omega
      · go_wp2_with fail
        go_ret2
        refine ⟨b, false, rfl, fun h => by simp at h, fun _ => idx_none.2 fun k f hf => ?_, hbel⟩
        have hk := (List.getElem?_eq_some_iff.1 hf).1
        rw [← HN.out] at hk
        have := H1.out k f (by omega) hf
        omega

set_option maxHeartbeats 400000 in
theorem search_nil (w : World) (id : Int) :
    Calls Try.prog 32 #[.slice none 0 0, .int .i64 id, .func (.func 33) #[] #[]] w (Found [] id w) := by
  go_enter Try.func32, Try.ntmps32
  go_wp2_with fail
  refine wp_loop_rounds 1 ?_
  rw [rounds_succ]
  go_wp2_with fail
  go_ret2
  exact ⟨0, false, rfl, fun h => by simp at h, fun _ => rfl, Below.refl _ _⟩

set_option maxHeartbeats 400000 in
theorem find_any (w : World) (B p : Nat) (v : Value) (es : List Ent) (given : Int) (ht : Tab w B p v es given) (hs : Sorted es) (hl : es.length ≤ 100000) (id : Int) :
    Calls Try.prog 29 #[.pointer (some ⟨p, 0, none⟩), .int .i64 id] w (Found es id w) := by
  obtain ⟨ao, cap, rfl, _, _⟩ := owns_form ht.own
  have hc := ht.c0
  have HT := Lib.hid ht
  clear ht
  have hsearch : Calls Try.prog 32 #[.slice ao es.length cap, .int .i64 id, .func (.func 33) #[] #[]] w (Found es id w) := by
    rcases HT.out.own.2 with ⟨hv, h0⟩ | ⟨g, cap', cur, hv, _⟩
    · simp only [Value.slice.injEq] at hv
      obtain ⟨rfl, _, rfl⟩ := hv
      rw [List.length_eq_zero_iff.1 h0]
      exact search_nil w id
    · simp only [Value.slice.injEq] at hv
      obtain ⟨rfl, _, rfl⟩ := hv
      exact search_some g cap es w hs hl B HT.out.own id
  have HS := Lib.hid hsearch
  clear hsearch
  go_enter Try.func29, Try.ntmps29
  go_wp2_with fail
  refine HS.out.mono ?_
  rintro e w' ⟨m, f, rfl, h1, h2, hb⟩
  have A := Lib.hid h1
  have A2 := Lib.hid h2
  clear h1 h2
  go_wp2_with fail
  go_ret2
  exact ⟨m, f, rfl, A.out, A2.out, hb⟩

set_option maxHeartbeats 400000 in
theorem find_nil (w : World) (id : Int) :
    Calls Try.prog 29 #[.pointer none, .int .i64 id] w fun e w' => e = .returned (.tuple #[.int .i64 0, .bool false]) ∧ w = w' := by
  go_enter Try.func29, Try.ntmps29
  go_wp2
  go_ret2
  exact ⟨rfl, rfl⟩

/-- the document's place of an ID -/
def idxI (es : List Ent) (id : Int) : Int := match idx es id with | some k => k | none => -1

set_option maxHeartbeats 1000000 in
theorem rfind_any (w : World) (B p : Nat) (v : Value) (es : List Ent) (given : Int) (ht : Tab w B p v es given) (hl : es.length ≤ 100000) (id : Int) :
    Calls Try.prog 31 #[.pointer (some ⟨p, 0, none⟩), .int .i64 id] w fun e w' => e = .returned (.int .i64 (idxI es id)) ∧ w = w' := by
  obtain ⟨ao, cap, rfl, _, _⟩ := owns_form ht.own
  have hc := ht.c0
  have HT := Lib.hid ht
  clear ht
  obtain ⟨n, hn⟩ : ∃ n, n = es.length := ⟨_, rfl⟩
  have HN := Lib.hid hn
  rw [← hn] at hl hc
  clear hn
  go_enter Try.func31, Try.ntmps31
  go_wp2_with fail
  go_loopg [5] n (fun m i wr => w = wr ∧ ∃ a : Nat, a ≤ n ∧ m = n - a ∧ i = .int .i64 a ∧ ∀ (k : Nat) (e : Ent), k < a → es[k]? = some e → e.id ≠ id)
  case atStart => exact ⟨rfl, 0, Nat.zero_le _, rfl, rfl, fun k e h => by omega⟩
  case round =>
    obtain ⟨rfl, a, ha, hm, rfl, h1⟩ := hrel
    have HM := Lib.hid hm
    have H1 := Lib.hid h1
    clear hm h1
    by_cases hlt : a < n
    · have hk : a < es.length := by rw [← HN.out]; omega
      obtain ⟨e, he⟩ : ∃ e, es[a]? = some e := ⟨_, List.getElem?_eq_getElem hk⟩
      obtain ⟨g, rfl, _⟩ := owns_some HT.out.own (by omega)
      have hr := owns_range HT.out.own he
      have h0 : w.cell? ⟨g, a * 11, none⟩ = some (.int .i64 e.id) := hr 0 _ e.c0
      have HE := Lib.hid he
      clear he hr hk
      by_cases hc : e.id = id
      · have h2 : (e.id == id) = true := by simpa using hc
        have h3 : idxI es id = a := by
          have : idx es id = some a := by
            cases hx : idx es id with
            | none => exact absurd hc (idx_none.1 hx a e HE.out)
            | some m =>
              obtain ⟨f, hf1, hf2⟩ := idx_some hx
              congr 1
              rcases Nat.lt_trichotomy m a with h | h | h
              · exact absurd hf2 (H1.out m f h hf1)
              · exact h
              · exact absurd hc (idx_before hx a e h HE.out)
          simp [idxI, this]
        have H3 := Lib.hid h3
        clear hc h3
        go_wp2_with fail
        go_ret
        exact ⟨ret_int H3.out.symm, rfl⟩
      · have h2 : (e.id == id) = false := by simpa using hc
        have HC := Lib.hid hc
        clear hc
        go_wp2_with fail
        go_roundg (n - (a + 1))
        case measure => rw [HM.out]; omega
        case rel =>
          refine ⟨rfl, a + 1, by omega, rfl, by go_num, fun k f hk hf => ?_⟩
          rcases Nat.lt_or_ge k a with h | h
          · exact H1.out k f h hf
          · have hka : k = a := by omega
            subst hka; rw [HE.out] at hf; simp only [Option.some.injEq] at hf; subst hf; exact HC.out
    · have h3 : idxI es id = -1 := by
        have : idx es id = none := idx_none.2 fun k e he => H1.out k e (by have := (List.getElem?_eq_some_iff.1 he).1; rw [← HN.out] at this; omega) he
        simp [idxI, this]
      have H3 := Lib.hid h3
      clear h3
      go_wp2_with fail
      go_ret
      exact ⟨ret_int H3.out.symm, rfl⟩
end Go.Proofs.Ytgnkehjjeoolcaa
