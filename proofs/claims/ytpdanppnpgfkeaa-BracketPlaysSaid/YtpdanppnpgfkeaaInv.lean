/- The plain law of a bracket: what holds of who stands where (W) and of what was played (P), whatever is decided. -/
import Derived.Test.YtpdanppnpgfkeaaStrongWalk
namespace Go.Proofs.Ytpdanppnpgfkeaa

structure Inv (n R : Nat) (W : Nat → Nat → Int) (P : Nat → Nat → Bool) : Prop where
  i0 : ∀ q, q < 2 ^ R → W 0 q = sv n R q
  i1 : ∀ r q, r < R → q < 2 ^ (R - r - 1) → P r q = true → 0 ≤ W r (2 * q) ∧ 0 ≤ W r (2 * q + 1) ∧ (W (r + 1) q = W r (2 * q) ∨ W (r + 1) q = W r (2 * q + 1))
  i2 : ∀ r q, r < R → q < 2 ^ (R - r - 1) → P r q = false → W (r + 1) q = if r = 0 then bye n R q else -2

theorem sv_range {n R : Nat} (hn : 2 ≤ n) (q : Nat) : sv n R q = -1 ∨ (0 ≤ sv n R q ∧ sv n R q < n) := by
  unfold sv
  split
  · exact .inl rfl
  · rename_i h
    exact .inr (by omega)

theorem two_lt {R r q : Nat} (hr : r < R) (hq : q < 2 ^ (R - r - 1)) : 2 * q < 2 ^ (R - r) ∧ 2 * q + 1 < 2 ^ (R - r) := by
  have := pow_half hr
  omega
theorem half_lt {R r q : Nat} (hr : r < R) (hq : q < 2 ^ (R - r)) : q / 2 < 2 ^ (R - r - 1) := by
  have := pow_half hr
  omega

theorem Inv.start {n : Nat} (hn : 2 ≤ n ∧ n ≤ 16) : Inv n (Rn n) (W0 n (Rn n)) noP := by
  obtain ⟨h1, h4, _, _⟩ := Rn_ok hn
  refine ⟨fun q hq => ?_, fun r q _ _ h => by simp [noP] at h, fun r q hr hq _ => ?_⟩
  · unfold W0 Wf; rw [if_pos ⟨rfl, hq⟩]
  · unfold W0 Wf
    rw [if_neg (by omega)]
    by_cases h : r = 0
    · subst h
      rw [if_pos ⟨rfl, by simpa using hq⟩, if_pos rfl]
    · rw [if_neg (by omega), if_neg h]

section
variable {n R : Nat} {W : Nat → Nat → Int} {P : Nat → Nat → Bool}

/-- an open match stands before nobody known -/
theorem Inv.fresh (h : Inv n R W P) {r q : Nat} (hr : r < R) (hq : q < 2 ^ (R - r - 1)) (hx : 0 ≤ W r (2 * q)) (hy : 0 ≤ W r (2 * q + 1)) (hp : P r q = false) : W (r + 1) q = -2 := by
  rw [h.i2 r q hr hq hp]
  split
  · rename_i h0
    subst h0
    obtain ⟨l1, l2⟩ := two_lt hr hq
    rw [h.i0 _ (by simpa using l1)] at hx
    rw [h.i0 _ (by simpa using l2)] at hy
    unfold bye
    rw [if_neg (by simp; omega), if_neg (by simp; omega)]
  · rfl

theorem Inv.step (h : Inv n R W P) {r q : Nat} (hr : r < R) (hq : q < 2 ^ (R - r - 1)) (hx : 0 ≤ W r (2 * q)) (hy : 0 ≤ W r (2 * q + 1)) (hp : P r q = false) {c : Int} (hc : c = W r (2 * q) ∨ c = W r (2 * q + 1)) :
    Inv n R (updW W (r + 1) q c) (updP P r q) := by
  have hf := h.fresh hr hq hx hy hp
  have same : ∀ r' q', ¬ (r' = r + 1 ∧ q' = q) → updW W (r + 1) q c r' q' = W r' q' := fun r' q' hn => by unfold updW; rw [if_neg hn]
  refine ⟨fun q' hq' => ?_, fun r' q' hr' hq' hp' => ?_, fun r' q' hr' hq' hp' => ?_⟩
  · rw [same _ _ (by omega)]; exact h.i0 q' hq'
  · by_cases he : r' = r ∧ q' = q
    · obtain ⟨rfl, rfl⟩ := he
      rw [same _ _ (by omega), same _ _ (by omega)]
      refine ⟨hx, hy, ?_⟩
      unfold updW
      rw [if_pos ⟨rfl, rfl⟩]
      exact hc
    · have hp2 : P r' q' = true := by unfold updP at hp'; rwa [if_neg he] at hp'
      obtain ⟨a1, a2, a3⟩ := h.i1 r' q' hr' hq' hp2
      have n1 : ¬ (r' = r + 1 ∧ 2 * q' = q) := by rintro ⟨rfl, rfl⟩; omega
      have n2 : ¬ (r' = r + 1 ∧ 2 * q' + 1 = q) := by rintro ⟨rfl, rfl⟩; omega
      rw [same _ _ n1, same _ _ n2, same _ _ (by omega)]
      exact ⟨a1, a2, a3⟩
  · have he : ¬ (r' = r ∧ q' = q) := by rintro ⟨rfl, rfl⟩; unfold updP at hp'; rw [if_pos ⟨rfl, rfl⟩] at hp'; cases hp'
    have hp2 : P r' q' = false := by unfold updP at hp'; rwa [if_neg he] at hp'
    rw [same _ _ (by omega)]
    exact h.i2 r' q' hr' hq' hp2

/-- whoever stands behind a match stood in it -/
theorem Inv.path (h : Inv n R W P) {r q : Nat} (hr : r < R) (hq : q < 2 ^ (R - r - 1)) {v : Int} (hv : 0 ≤ v) (hw : W (r + 1) q = v) : W r (2 * q) = v ∨ W r (2 * q + 1) = v := by
  cases hp : P r q with
  | true =>
    obtain ⟨_, _, h3⟩ := h.i1 r q hr hq hp
    rw [hw] at h3
    rcases h3 with h3 | h3
    · exact .inl h3.symm
    · exact .inr h3.symm
  | false =>
    rw [h.i2 r q hr hq hp] at hw
    split at hw
    · rename_i h0
      subst h0
      obtain ⟨l1, l2⟩ := two_lt hr hq
      rw [h.i0 _ (by simpa using l1), h.i0 _ (by simpa using l2)]
      unfold bye at hw
      split at hw
      · exact .inr hw
      · split at hw
        · exact .inl hw
        · omega
    · omega

theorem seat_inj {R : Nat} (hR : R ≤ 4) {a b : Nat} (ha : a < 2 ^ R) (hb : b < 2 ^ R) (h : seat R a = seat R b) : a = b := by
  have key : (List.range 5).all (fun R => (List.range (2 ^ R)).all fun a => (List.range (2 ^ R)).all fun b => (seat R a != seat R b) || a == b) = true := by kernel_rfl
  have k1 := List.all_eq_true.1 key R (by simp; omega)
  have k2 := List.all_eq_true.1 k1 a (by simpa using ha)
  have k3 := List.all_eq_true.1 k2 b (by simpa using hb)
  simp [h] at k3
  exact k3
theorem seat_sur {R : Nat} (hR : R ≤ 4) {a : Nat} (ha : a < 2 ^ R) : ∃ q, q < 2 ^ R ∧ seat R q = a := by
  have key : (List.range 5).all (fun R => (List.range (2 ^ R)).all fun a => (List.range (2 ^ R)).any fun q => seat R q == a) = true := by kernel_rfl
  have k1 := List.all_eq_true.1 key R (by simp; omega)
  have k2 := List.all_eq_true.1 k1 a (by simpa using ha)
  obtain ⟨q, hq, h⟩ := List.any_eq_true.1 k2
  exact ⟨q, by simpa using hq, by simpa using h⟩

/-- nobody stands twice in one round -/
theorem Inv.uniq (h : Inv n R W P) (hR : R ≤ 4) {v : Int} (hv : 0 ≤ v) : ∀ r q q', r ≤ R → q < 2 ^ (R - r) → q' < 2 ^ (R - r) → W r q = v → W r q' = v → q = q' := by
  intro r
  induction r with
  | zero =>
    intro q q' _ hq hq' h1 h2
    rw [Nat.sub_zero] at hq hq'
    rw [h.i0 _ hq] at h1
    rw [h.i0 _ hq'] at h2
    unfold sv at h1 h2
    split at h1
    · omega
    · split at h2
      · omega
      · exact seat_inj hR hq hq' (by omega)
  | succ r ih =>
    intro q q' hr hq hq' h1 h2
    rw [show R - (r + 1) = R - r - 1 by omega] at hq hq'
    obtain ⟨a1, a2⟩ := two_lt (by omega) hq
    obtain ⟨b1, b2⟩ := two_lt (by omega) hq'
    rcases h.path (by omega) hq hv h1 with p1 | p1 <;> rcases h.path (by omega) hq' hv h2 with p2 | p2
    · have := ih _ _ (by omega) a1 b1 p1 p2; omega
    · have := ih _ _ (by omega) a1 b2 p1 p2; omega
    · have := ih _ _ (by omega) a2 b1 p1 p2; omega
    · have := ih _ _ (by omega) a2 b2 p1 p2; omega

/-- who stands in a round stood in each one ahead of it -/
theorem Inv.down (h : Inv n R W P) {v : Int} (hv : 0 ≤ v) (d : Nat) : ∀ r q, r + d ≤ R → q < 2 ^ (R - (r + d)) → W (r + d) q = v → ∃ q', q' < 2 ^ (R - r) ∧ W r q' = v := by
  induction d with
  | zero => intro r q _ hq hw; exact ⟨q, by simpa using hq, by simpa using hw⟩
  | succ d ih =>
    intro r q hr hq hw
    have hq2 : q < 2 ^ (R - (r + d) - 1) := by rw [show R - (r + d) - 1 = R - (r + (d + 1)) by omega]; exact hq
    obtain ⟨a1, a2⟩ := two_lt (R := R) (r := r + d) (by omega) hq2
    rcases h.path (by omega) hq2 hv hw with p | p
    · exact ih r _ (by omega) a1 p
    · exact ih r _ (by omega) a2 p

/-- who has lost stands nowhere behind -/
theorem Inv.gone (h : Inv n R W P) (hR : R ≤ 4) {r q : Nat} (hr : r < R) (hq : q < 2 ^ (R - r - 1)) {v : Int} (hv : 0 ≤ v) (hin : W r (2 * q) = v ∨ W r (2 * q + 1) = v) (hne : W (r + 1) q ≠ v)
    {r' q' : Nat} (hr' : r < r') (hR' : r' ≤ R) (hq' : q' < 2 ^ (R - r')) : W r' q' ≠ v := by
  intro hw
  obtain ⟨d, rfl⟩ : ∃ d, r' = r + 1 + d := ⟨r' - (r + 1), by omega⟩
  obtain ⟨q2, hq2, hw2⟩ := h.down hv d (r + 1) q' hR' hq' hw
  have hq3 : q2 < 2 ^ (R - r - 1) := by rw [show R - r - 1 = R - (r + 1) by omega]; exact hq2
  obtain ⟨a1, a2⟩ := two_lt hr hq
  obtain ⟨b1, b2⟩ := two_lt hr hq3
  have : q2 = q := by
    rcases h.path hr hq3 hv hw2 with p2 | p2 <;> rcases hin with p1 | p1
    · have := h.uniq hR hv r _ _ (by omega) b1 a1 p2 p1; omega
    · have := h.uniq hR hv r _ _ (by omega) b1 a2 p2 p1; omega
    · have := h.uniq hR hv r _ _ (by omega) b2 a1 p2 p1; omega
    · have := h.uniq hR hv r _ _ (by omega) b2 a2 p2 p1; omega
  subst this
  exact hne hw2

theorem hit_parts {a : Int} {r q : Nat} (h : hit W P a r q = true) : 0 ≤ W r (2 * q) ∧ 0 ≤ W r (2 * q + 1) ∧ P r q = true ∧ (W r (2 * q) = a ∨ W r (2 * q + 1) = a) ∧ W (r + 1) q ≠ a := by
  unfold hit at h
  simp at h
  obtain ⟨⟨⟨⟨h1, h2⟩, h3⟩, h4⟩, h5⟩ := h
  exact ⟨h1, h2, h3, h4, h5⟩
theorem hit_mk {a : Int} {r q : Nat} (h1 : 0 ≤ W r (2 * q)) (h2 : 0 ≤ W r (2 * q + 1)) (h3 : P r q = true) (h4 : W r (2 * q) = a ∨ W r (2 * q + 1) = a) (h5 : W (r + 1) q ≠ a) : hit W P a r q = true := by
  unfold hit
  simp [h1, h2, h3, h4, h5]

/-- one loses once -/
theorem Inv.once (h : Inv n R W P) (hR : R ≤ 4) {a : Int} {r q r' q' : Nat} (hr : r < R) (hq : q < 2 ^ (R - r - 1)) (hr' : r' < R) (hq' : q' < 2 ^ (R - r' - 1)) (h1 : hit W P a r q = true) (h2 : hit W P a r' q' = true) : r = r' := by
  obtain ⟨a1, a2, a3, a4, a5⟩ := hit_parts h1
  obtain ⟨b1, b2, b3, b4, b5⟩ := hit_parts h2
  have ha : 0 ≤ a := by omega
  obtain ⟨c1, c2⟩ := two_lt hr hq
  obtain ⟨d1, d2⟩ := two_lt hr' hq'
  rcases Nat.lt_trichotomy r r' with hl | hl | hl
  · exfalso
    rcases b4 with b4 | b4
    · exact h.gone hR hr hq ha a4 a5 hl (by omega) d1 b4
    · exact h.gone hR hr hq ha a4 a5 hl (by omega) d2 b4
  · exact hl
  · exfalso
    rcases a4 with a4 | a4
    · exact h.gone hR hr' hq' ha b4 b5 hl (by omega) c1 a4
    · exact h.gone hR hr' hq' ha b4 b5 hl (by omega) c2 a4
end
end Go.Proofs.Ytpdanppnpgfkeaa
