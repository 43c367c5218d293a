/-
  Plain: the sums of weights, the shares. No condition.
-/
import Derived.Test.YtdcmofdmjpggjaaPart
import Derived.Test.YtdcmofdmjpggjaaRow
namespace Go.Proofs.Ytdcmofdmjpggjaa
open Go.RowKit

def posi (x : Int) : Int := max x 0
/-- the sum of the weights above 0 -/
def sm : List Int → Int
  | [] => 0
  | x :: r => posi x + sm r
theorem sm_append (l m : List Int) : sm (l ++ m) = sm l + sm m := by
  induction l with
  | nil => simp [sm]
  | cons x r ih => rw [List.cons_append, sm, sm, ih, Int.add_assoc]
theorem sm_nonneg (l : List Int) : 0 ≤ sm l := by
  induction l with
  | nil => exact Int.le_refl _
  | cons x r ih => rw [sm, posi]; omega
theorem sm_take_le (l : List Int) (k : Nat) : sm (l.take k) ≤ sm l := by
  have e : l.take k ++ l.drop k = l := List.take_append_drop k l
  have h := sm_append (l.take k) (l.drop k)
  rw [e] at h
  have := sm_nonneg (l.drop k)
  omega
theorem sm_at {l : List Int} {k : Nat} {x : Int} (h : l[k]? = some x) : sm (l.take (k + 1)) = sm (l.take k) + posi x := by
  rw [take_at h, sm_append, sm, sm, Int.add_zero]
def pt (total : Int) (w : List Int) (i : Nat) : Int := partOf total (sm (w.take i)) (sm w)
theorem pt_zero (total : Int) (w : List Int) : pt total w 0 = 0 := by simp [pt, sm, partOf]
def dif (total : Int) (w : List Int) (i : Nat) : Int := IntKind.i64.wrap (pt total w (i + 1) - pt total w i)
/-- the shares -/
def shareL (total : Int) (w : List Int) : List Int := if sm w = 0 then [] else (List.range w.length).map (dif total w)
theorem shareL_zero {total : Int} {w : List Int} (h : sm w = 0) : shareL total w = [] := if_pos h
theorem shareL_length {total : Int} {w : List Int} (h : sm w ≠ 0) : (shareL total w).length = w.length := by rw [shareL, if_neg h]; simp
theorem shareL_get {total : Int} {w : List Int} (h : sm w ≠ 0) {i : Nat} (hi : i < w.length) : (shareL total w)[i]? = some (dif total w i) := by
  rw [shareL, if_neg h, List.getElem?_map, List.getElem?_range hi]
  rfl
theorem shareL_take {total : Int} {w : List Int} (h : sm w ≠ 0) {i : Nat} (hi : i < w.length) : (shareL total w).take (i + 1) = (shareL total w).take i ++ [dif total w i] := take_at (shareL_get h hi)
/-- the first i places are filled as they should be -/
def Filled (N C : List Int) (i : Nat) : Prop := C.length = N.length ∧ ∀ j, j < i → C[j]? = N[j]?
theorem filled_step {N C : List Int} {x : Int} {i : Nat} (h : Filled N C i) (hx : N[i]? = some x) : Filled N (C.set i x) (i + 1) := by
  obtain ⟨h1, h2⟩ := h
  have hi := (List.getElem?_eq_some_iff.1 hx).1
  refine ⟨by simpa using h1, fun j hj => ?_⟩
  by_cases e : j = i
  · subst e
    rw [List.getElem?_set_self (by omega), hx]
  · rw [List.getElem?_set_ne (by omega)]
    exact h2 j (by omega)
theorem filled_end {N C : List Int} (h : Filled N C N.length) : C = N := by
  apply List.ext_getElem?
  intro j
  by_cases hj : j < N.length
  · exact h.2 j hj
  · rw [List.getElem?_eq_none (by rw [h.1]; omega), List.getElem?_eq_none (by omega)]
theorem sm_ones (n : Nat) : sm (List.replicate n 1) = n := by
  induction n with
  | zero => rfl
  | succ k ih => rw [List.replicate_succ, sm, ih, posi]; omega
end Go.Proofs.Ytdcmofdmjpggjaa
