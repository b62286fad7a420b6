/- The plain law of a bracket, counted: behind n - 1 decided matches there is a champion, and everybody else has lost once. -/
import Derived.Test.YtpdanppnpgfkeaaInv
namespace Go.Proofs.Ytpdanppnpgfkeaa

def cnt (P : Nat → Nat → Bool) (R : Nat) : Nat := ((spots R).filter fun s => P s.1 s.2).length
/-- the matches that there are -/
def isM (n R : Nat) (s : Nat × Nat) : Bool := s.1 != 0 || (decide (0 ≤ sv n R (2 * s.2)) && decide (0 ≤ sv n R (2 * s.2 + 1)))

theorem cntM {n : Nat} (hn : 2 ≤ n ∧ n ≤ 16) : ((spots (Rn n)).filter (isM n (Rn n))).length = n - 1 := by
  have key : (List.range 15).all (fun d => ((spots (Rn (d + 2))).filter (isM (d + 2) (Rn (d + 2)))).length == d + 1) = true := by kernel_rfl
  have h := List.all_eq_true.1 key (n - 2) (by simp; omega)
  rw [show n - 2 + 2 = n by omega, show n - 2 + 1 = n - 1 by omega] at h
  simpa using h

theorem spots_nodup {R : Nat} (hR : R ≤ 4) : (spots R).Nodup := by
  have : R = 0 ∨ R = 1 ∨ R = 2 ∨ R = 3 ∨ R = 4 := by omega
  rcases this with rfl | rfl | rfl | rfl | rfl <;> decide

theorem filter_upd {α : Type} [DecidableEq α] (p : α → Bool) (x : α) (hp : p x = false) : ∀ l : List α, l.Nodup → x ∈ l → (l.filter fun s => if s = x then true else p s).length = (l.filter p).length + 1
  | [], _, h => by simp at h
  | y :: l, hn, h => by
    obtain ⟨h1, h2⟩ := List.nodup_cons.1 hn
    by_cases hy : y = x
    · subst hy
      have e : (l.filter fun s => if s = y then true else p s) = l.filter p := List.filter_congr (fun s hs => by rw [if_neg (fun e2 : s = y => h1 (by rw [← e2]; exact hs))])
      rw [List.filter_cons, List.filter_cons, hp, if_pos (if_pos rfl), e]
      rfl
    · have hm : x ∈ l := by simpa [Ne.symm hy] using h
      have ih := filter_upd p x hp l h2 hm
      simp only [List.filter_cons, if_neg hy]
      cases p y
      · simpa using ih
      · simpa using ih

theorem cnt_step {P : Nat → Nat → Bool} {R r q : Nat} (hR : R ≤ 4) (hr : r < R) (hq : q < 2 ^ (R - r - 1)) (hp : P r q = false) : cnt (updP P r q) R = cnt P R + 1 := by
  have h := filter_upd (fun s : Nat × Nat => P s.1 s.2) (r, q) hp (spots R) (spots_nodup hR) (mem_spots hr hq)
  unfold cnt
  rw [← h]
  congr 1
  apply List.filter_congr
  intro s _
  unfold updP
  by_cases e : s = (r, q)
  · subst e; simp
  · rw [if_neg e, if_neg (fun h => e (Prod.ext h.1 h.2))]

theorem cnt_zero (R : Nat) : cnt noP R = 0 := by
  unfold cnt noP
  simp

theorem filter_full {α : Type} (p m : α → Bool) : ∀ l : List α, (∀ s ∈ l, p s = true → m s = true) → (l.filter p).length = (l.filter m).length → ∀ s ∈ l, m s = true → p s = true
  | [], _, _, s, h, _ => by simp at h
  | y :: l, hs, he, s, h, hm => by
    have hle : ∀ l : List α, (∀ s ∈ l, p s = true → m s = true) → (l.filter p).length ≤ (l.filter m).length := by
      intro l
      induction l with
      | nil => intro _; simp
      | cons a l ih =>
        intro h
        have i := ih (fun s hs => h s (List.mem_cons_of_mem _ hs))
        simp only [List.filter_cons]
        cases hpa : p a with
        | true => rw [h a (List.mem_cons_self ..) hpa]; simpa using i
        | false =>
          cases m a
          · simpa using i
          · simp; omega
    have hs' : ∀ s ∈ l, p s = true → m s = true := fun s hs2 => hs s (List.mem_cons_of_mem _ hs2)
    have i := hle l hs'
    simp only [List.filter_cons] at he
    cases hpy : p y with
    | true =>
      rw [hpy, hs y (List.mem_cons_self ..) hpy] at he
      rcases List.mem_cons.1 h with rfl | h2
      · exact hpy
      · exact filter_full p m l hs' (by simpa using he) s h2 hm
    | false =>
      rw [hpy] at he
      cases hmy : m y with
      | true => rw [hmy] at he; simp at he; omega
      | false =>
        rw [hmy] at he
        rcases List.mem_cons.1 h with rfl | h2
        · rw [hmy] at hm; cases hm
        · exact filter_full p m l hs' (by simpa using he) s h2 hm

section
variable {n R : Nat} {W : Nat → Nat → Int} {P : Nat → Nat → Bool}

theorem Inv.sub (h : Inv n R W P) {r q : Nat} (hr : r < R) (hq : q < 2 ^ (R - r - 1)) (hp : P r q = true) : isM n R (r, q) = true := by
  unfold isM
  by_cases h0 : r = 0
  · subst h0
    obtain ⟨a1, a2, _⟩ := h.i1 0 q hr hq hp
    obtain ⟨l1, l2⟩ := two_lt hr hq
    rw [h.i0 _ (by simpa using l1)] at a1
    rw [h.i0 _ (by simpa using l2)] at a2
    simp [a1, a2]
  · simp [h0]

/-- all is decided -/
def AllM (n R : Nat) (P : Nat → Nat → Bool) : Prop := ∀ r q, r < R → q < 2 ^ (R - r - 1) → isM n R (r, q) = true → P r q = true

theorem Inv.all_of_cnt (h : Inv n R W P) (hc : cnt P R = ((spots R).filter (isM n R)).length) : AllM n R P := by
  intro r q hr hq hm
  exact filter_full (fun s : Nat × Nat => P s.1 s.2) (isM n R) (spots R) (fun s hs hp => by obtain ⟨a, b⟩ := of_spots hs; exact h.sub a b hp) hc (r, q) (mem_spots hr hq) hm

theorem Inv.cnt_of_all (h : Inv n R W P) (ha : AllM n R P) : cnt P R = ((spots R).filter (isM n R)).length := by
  unfold cnt
  congr 1
  apply List.filter_congr
  intro s hs
  obtain ⟨a, b⟩ := of_spots hs
  cases hm : isM n R s with
  | true => exact ha s.1 s.2 a b hm
  | false =>
    cases hp : P s.1 s.2 with
    | false => rfl
    | true =>
      have := h.sub a b hp
      rw [hm] at this
      cases this

/-- of two beside one another one is somebody -/
def Pairs (n R : Nat) : Prop := ∀ q, q < 2 ^ (R - 1) → 0 ≤ sv n R (2 * q) ∨ 0 ≤ sv n R (2 * q + 1)
theorem pairs {n : Nat} (hn : 2 ≤ n ∧ n ≤ 16) : Pairs n (Rn n) := by
  intro q hq
  have key : (List.range 15).all (fun d => (List.range (2 ^ (Rn (d + 2) - 1))).all fun q => decide (0 ≤ sv (d + 2) (Rn (d + 2)) (2 * q)) || decide (0 ≤ sv (d + 2) (Rn (d + 2)) (2 * q + 1))) = true := by kernel_rfl
  have h := List.all_eq_true.1 key (n - 2) (by simp; omega)
  rw [show n - 2 + 2 = n by omega] at h
  have h2 := List.all_eq_true.1 h q (by simpa using hq)
  simpa using h2

theorem sv_neg {n R q : Nat} (h : ¬ 0 ≤ sv n R q) : sv n R q = -1 := by
  unfold sv at h ⊢
  split
  · rfl
  · rename_i hn
    rw [if_neg hn] at h
    omega

/-- who stands at a spot of round r + 1 is somebody, if the match there is decided or is none -/
theorem Inv.known (h : Inv n R W P) (hpr : Pairs n R) {r q : Nat} (hr : r < R) (hq : q < 2 ^ (R - r - 1)) (hd : isM n R (r, q) = true → P r q = true) : 0 ≤ W (r + 1) q := by
  cases hp : P r q with
  | true =>
    obtain ⟨a1, a2, a3⟩ := h.i1 r q hr hq hp
    omega
  | false =>
    have hm : isM n R (r, q) = false := by
      cases hm : isM n R (r, q) with
      | false => rfl
      | true => rw [hd hm] at hp; cases hp
    unfold isM at hm
    simp at hm
    obtain ⟨rfl, hm⟩ := hm
    rw [h.i2 0 q hr hq hp, if_pos rfl]
    unfold bye
    rcases hpr q (by simpa using hq) with h1 | h1
    · have h2 := sv_neg (n := n) (R := R) (q := 2 * q + 1) (by have := hm h1; omega)
      rw [if_neg (by simp; omega), if_pos (by simp [h2])]
      exact h1
    · by_cases h2 : 0 ≤ sv n R (2 * q)
      · have := hm h2; omega
      · rw [if_pos (by simp [sv_neg h2])]
        exact h1

/-- where nothing is open all is decided -/
theorem Inv.all_of_none (h : Inv n R W P) (hpr : Pairs n R) (ho : ∀ r q, r < R → q < 2 ^ (R - r - 1) → 0 ≤ W r (2 * q) → 0 ≤ W r (2 * q + 1) → P r q = true) : AllM n R P := by
  intro r
  induction r with
  | zero =>
    intro q hr hq hm
    obtain ⟨l1, l2⟩ := two_lt hr hq
    unfold isM at hm
    simp at hm
    exact ho 0 q hr hq (by rw [h.i0 _ (by simpa using l1)]; exact hm.1) (by rw [h.i0 _ (by simpa using l2)]; exact hm.2)
  | succ r ih =>
    intro q hr hq _
    obtain ⟨l1, l2⟩ := two_lt hr hq
    have e : R - (r + 1) = R - r - 1 := by omega
    rw [e] at l1 l2
    exact ho (r + 1) q hr hq (h.known hpr (by omega) l1 (ih _ (by omega) l1)) (h.known hpr (by omega) l2 (ih _ (by omega) l2))

/-- whoever is known behind a match: all ahead of it is decided -/
theorem Inv.all_above (h : Inv n R W P) : ∀ r q, r < R → q < 2 ^ (R - r - 1) → 0 ≤ W (r + 1) q → ∀ r' q', r' ≤ r → q' < 2 ^ (R - r' - 1) → q' / 2 ^ (r - r') = q → isM n R (r', q') = true → P r' q' = true := by
  intro r
  induction r with
  | zero =>
    intro q hr hq hw r' q' hr' hq' hd hm
    obtain rfl : r' = 0 := by omega
    have hd2 : q' = q := by simpa using hd
    subst hd2
    cases hp : P 0 q' with
    | true => rfl
    | false =>
      rw [h.i2 0 q' hr hq hp, if_pos rfl] at hw
      unfold isM at hm
      simp at hm
      unfold bye at hw
      rw [if_neg (by simp; omega), if_neg (by simp; omega)] at hw
      omega
  | succ r ih =>
    intro q hr hq hw r' q' hr' hq' hd hm
    have hp : P (r + 1) q = true := by
      cases hp : P (r + 1) q with
      | true => rfl
      | false => rw [h.i2 _ q hr hq hp, if_neg (by omega)] at hw; omega
    rcases Nat.lt_or_ge r r' with hl | hl
    · obtain rfl : r' = r + 1 := by omega
      have hd2 : q' = q := by simpa using hd
      subst hd2
      exact hp
    · obtain ⟨a1, a2, _⟩ := h.i1 (r + 1) q hr hq hp
      obtain ⟨l1, l2⟩ := two_lt hr hq
      have e : R - (r + 1) = R - r - 1 := by omega
      rw [e] at l1 l2
      have e2 : r + 1 - r' = r - r' + 1 := by omega
      rw [e2, Nat.pow_succ, ← Nat.div_div_eq_div_mul] at hd
      have hc : q' / 2 ^ (r - r') = 2 * q ∨ q' / 2 ^ (r - r') = 2 * q + 1 := by omega
      rcases hc with hc | hc
      · exact ih _ (by omega) l1 a1 r' q' hl hq' hc hm
      · exact ih _ (by omega) l2 a2 r' q' hl hq' hc hm

theorem Inv.all_of_champ (h : Inv n R W P) (hR : 1 ≤ R) (hw : 0 ≤ W R 0) : AllM n R P := by
  intro r q hr hq hm
  have hw' : 0 ≤ W (R - 1 + 1) 0 := by rw [show R - 1 + 1 = R by omega]; exact hw
  refine h.all_above (R - 1) 0 (by omega) (Nat.pow_pos (by omega)) hw' r q (by omega) hq ?_ hm
  exact Nat.div_eq_of_lt (by rw [show R - 1 - r = R - r - 1 by omega]; exact hq)

theorem Inv.champ_of_all (h : Inv n R W P) (hpr : Pairs n R) (hR : 1 ≤ R) (ha : AllM n R P) : 0 ≤ W R 0 := by
  have := h.known hpr (r := R - 1) (q := 0) (by omega) (Nat.pow_pos (by omega)) (ha _ _ (by omega) (Nat.pow_pos (by omega)))
  rwa [show R - 1 + 1 = R by omega] at this

/-- when all is decided everybody but the champion has lost -/
theorem Inv.lost (h : Inv n R W P) (hpr : Pairs n R) (hR : 1 ≤ R ∧ R ≤ 4) (hnR : n ≤ 2 ^ R) (ha : AllM n R P) {a : Nat} (han : a < n) (hac : W R 0 ≠ a) : ∃ r q : Nat, r < R ∧ q < 2 ^ (R - r - 1) ∧ hit W P a r q = true := by
  obtain ⟨q0, hq0, hs0⟩ := seat_sur hR.2 (a := a) (by omega)
  have h0 : W 0 q0 = a := by rw [h.i0 q0 hq0, sv, hs0, if_neg (by omega)]
  have step : ∀ d, d ≤ R → (∃ r q : Nat, r < R ∧ q < 2 ^ (R - r - 1) ∧ hit W P a r q = true) ∨ ∃ q, q < 2 ^ (R - d) ∧ W d q = a := by
    intro d
    induction d with
    | zero => intro _; exact .inr ⟨q0, by simpa using hq0, h0⟩
    | succ d ih =>
      intro hd
      rcases ih (by omega) with hh | ⟨q, hq, hw⟩
      · exact .inl hh
      · have hq2 := half_lt (R := R) (r := d) (by omega) hq
        by_cases he : W (d + 1) (q / 2) = a
        · exact .inr ⟨q / 2, by rw [show R - (d + 1) = R - d - 1 by omega]; exact hq2, he⟩
        · refine .inl ⟨d, q / 2, by omega, hq2, ?_⟩
          have hin : W d (2 * (q / 2)) = a ∨ W d (2 * (q / 2) + 1) = a := by
            rcases Nat.mod_two_eq_zero_or_one q with hm | hm
            · left; rw [show 2 * (q / 2) = q by omega]; exact hw
            · right; rw [show 2 * (q / 2) + 1 = q by omega]; exact hw
          cases hp : P d (q / 2) with
          | true =>
            obtain ⟨a1, a2, _⟩ := h.i1 d _ (by omega) hq2 hp
            exact hit_mk a1 a2 hp hin he
          | false =>
            exfalso
            have hk := h.known hpr (by omega) hq2 (ha d _ (by omega) hq2)
            have hM : isM n R (d, q / 2) = false := by
              cases hm : isM n R (d, q / 2) with
              | false => rfl
              | true => rw [ha d _ (by omega) hq2 hm] at hp; cases hp
            unfold isM at hM
            simp at hM
            obtain ⟨rfl, hM⟩ := hM
            obtain ⟨l1, l2⟩ := two_lt (R := R) (r := 0) (by omega) hq2
            rw [h.i0 _ (by simpa using l1), h.i0 _ (by simpa using l2)] at hin
            rw [h.i2 0 _ (by omega) hq2 hp, if_pos rfl] at he
            unfold bye at he
            rcases hin with hin | hin
            · have h2 := sv_neg (n := n) (R := R) (q := 2 * (q / 2) + 1) (by have := hM (by omega); omega)
              rw [if_neg (by simp; omega), if_pos (by simp [h2])] at he
              exact he hin
            · by_cases h2 : 0 ≤ sv n R (2 * (q / 2))
              · have := hM h2; omega
              · rw [if_pos (by simp [sv_neg h2])] at he
                exact he hin
  rcases step R (Nat.le_refl _) with hh | ⟨q, hq, hw⟩
  · exact hh
  · rw [Nat.sub_self] at hq
    obtain rfl : q = 0 := by simpa using hq
    exact absurd hw hac

theorem Inv.champ_not (h : Inv n R W P) (hR : R ≤ 4) {a : Int} (ha : W R 0 = a) {r q : Nat} (hr : r < R) (hq : q < 2 ^ (R - r - 1)) : hit W P a r q = false := by
  cases hh : hit W P a r q with
  | false => rfl
  | true =>
    exfalso
    obtain ⟨a1, a2, a3, a4, a5⟩ := hit_parts hh
    exact h.gone hR hr hq (by omega) a4 a5 (r' := R) (q' := 0) hr (Nat.le_refl _) (by simp) ha
end
end Go.Proofs.Ytpdanppnpgfkeaa
