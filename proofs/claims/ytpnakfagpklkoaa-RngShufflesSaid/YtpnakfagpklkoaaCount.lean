/- A shuffle holds what it held: how often a number stands in a list. No program in sight. -/
import Derived.Test.YtpnakfagpklkoaaShuf
namespace Go.Proofs.Ytpnakfagpklkoaa
open Go.RowKit

theorem count_swapAt (ys : List Int) (i k : Nat) (hi : i < ys.length) (hk : k < ys.length) (e : Int) : (swapAt ys i k).count e = ys.count e := by
  have h1 := List.count_set (a := ys.getD k 0) (b := e) (l := ys) (h := hi)
  have h2 := List.count_set (a := ys.getD i 0) (b := e) (l := ys.set i (ys.getD k 0)) (h := (by simpa using hk : k < (ys.set i (ys.getD k 0)).length))
  unfold swapAt
  have gi : ys.getD i 0 = ys[i] := by simp [List.getD_eq_getElem?_getD, List.getElem?_eq_getElem hi]
  have gk : ys.getD k 0 = ys[k] := by simp [List.getD_eq_getElem?_getD, List.getElem?_eq_getElem hk]
  have gs : (ys.set i (ys.getD k 0))[k]'(by simpa using hk) = ys[k] := by
    rw [List.getElem_set]
    split
    · exact gk
    · rfl
  rw [h2, h1, gs, gi, gk]
  have hc : (if (ys[i] == e) = true then 1 else 0) ≤ ys.count e := by
    split
    · rename_i h
      have h' : ys[i] = e := by simpa using h
      have := List.count_pos_iff.2 (h' ▸ List.getElem_mem hi)
      omega
    · omega
  omega

theorem shuf_count (n : Nat) : ∀ (s : Int) (ys : List Int), n ≤ ys.length → ∀ e, (shuf n s ys).1.count e = ys.count e := by
  induction n with
  | zero => intro s ys _ e; rfl
  | succ n ih =>
    intro s ys h e
    cases n with
    | zero => rfl
    | succ n =>
      show (shuf (n + 1) _ _).1.count e = _
      have hb := belV_rng s ((n : Int) + 2) (by omega)
      rw [ih _ _ (by rw [swapAt_length]; omega), count_swapAt _ _ _ (by omega) (by omega)]

theorem shuf_length (n : Nat) : ∀ (s : Int) (ys : List Int), (shuf n s ys).1.length = ys.length := by
  induction n with
  | zero => intro s ys; rfl
  | succ n ih =>
    intro s ys
    cases n with
    | zero => rfl
    | succ n =>
      show (shuf (n + 1) _ _).1.length = _
      rw [ih, swapAt_length]

theorem count_take_succ (ys : List Int) (k : Nat) (h : k < ys.length) (e : Int) : (ys.take (k + 1)).count e = (ys.take k).count e + if ys.getD k 0 = e then 1 else 0 := by
  rw [List.take_succ_eq_append_getElem h, List.count_append, List.count_singleton]
  simp [List.getD_eq_getElem?_getD, List.getElem?_eq_getElem h]
end Go.Proofs.Ytpnakfagpklkoaa
