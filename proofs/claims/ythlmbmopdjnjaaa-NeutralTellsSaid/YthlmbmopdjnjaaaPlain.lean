/-
  Plain: what neutral classes become, place by place. No program in sight.
-/
import Derived.Test.YthlmbmopdjnjaaaSmall
namespace Go.Proofs.Ythlmbmopdjnjaaa

/-- the way of the last class ahead of place i that is not neutral; s: the start's -/
def prevW (l : List Int) (s : Int) : Nat → Int
  | 0 => s
  | i + 1 => if neu (l.getD i 0) then prevW l s i else wy (l.getD i 0)
/-- the way of the first class that is not neutral; e: the end's -/
def nextW (e : Int) : List Int → Int
  | [] => e
  | c :: r => if neu c then nextW e r else wy c
def mix (lv a b : Int) : Int := if a = b then a else emb lv
def valAt (l : List Int) (lv sos eos : Int) (i : Nat) : Int :=
  if neu (l.getD i 0) then mix lv (prevW l (en sos) i) (nextW (en eos) (l.drop (i + 1))) else l.getD i 0
def neuL (l : List Int) (lv sos eos : Int) : List Int := (List.range l.length).map (valAt l lv sos eos)
theorem neuL_length (l : List Int) (lv sos eos : Int) : (neuL l lv sos eos).length = l.length := by simp [neuL]
theorem neuL_get (l : List Int) (lv sos eos : Int) (i : Nat) (h : i < l.length) : (neuL l lv sos eos)[i]? = some (valAt l lv sos eos i) := by
  rw [neuL, List.getElem?_map, List.getElem?_range h]; rfl
theorem getD_of {l : List Int} {i : Nat} {x : Int} (h : l[i]? = some x) : l.getD i 0 = x := by rw [List.getD_eq_getElem?_getD, h]; rfl
theorem val_strong {l : List Int} {i : Nat} {x : Int} (lv sos eos : Int) (h : l[i]? = some x) (hx : neu x = false) : valAt l lv sos eos i = x := by
  rw [valAt, getD_of h, hx]; rfl

/-- the row, the first i places done -/
def Done (l : List Int) (lv sos eos : Int) (C : List Int) (i : Nat) : Prop := C = (neuL l lv sos eos).take i ++ l.drop i
theorem done_get {l C : List Int} {lv sos eos : Int} {i : Nat} (h : Done l lv sos eos C i) (hi : i ≤ l.length) : C[i]? = l[i]? := by
  rw [h, List.getElem?_append_right (by rw [List.length_take, neuL_length]; omega), List.length_take, neuL_length, Nat.min_eq_left hi, Nat.sub_self, List.getElem?_drop]
  rfl
theorem done_step {l C : List Int} {lv sos eos : Int} {i : Nat} (h : Done l lv sos eos C i) (hi : i < l.length) : Done l lv sos eos (C.set i (valAt l lv sos eos i)) (i + 1) := by
  unfold Done at h ⊢
  rw [h, List.set_append_right _ _ (by rw [List.length_take, neuL_length]; omega), List.length_take, neuL_length, Nat.min_eq_left (by omega), Nat.sub_self,
    take_at (neuL_get l lv sos eos i hi), drop_at (List.getElem?_eq_getElem hi), List.append_assoc]
  rfl
theorem set_same {C : List Int} {i : Nat} {x : Int} (h : C[i]? = some x) : C.set i x = C := by
  apply List.ext_getElem?
  intro j
  by_cases e : i = j
  · subst e
    rw [List.getElem?_set_self (List.getElem?_eq_some_iff.1 h).1, h]
  · rw [List.getElem?_set_ne e]
theorem done_keep {l C : List Int} {lv sos eos x : Int} {i : Nat} (h : Done l lv sos eos C i) (hx : l[i]? = some x) (hn : neu x = false) : Done l lv sos eos C (i + 1) := by
  have hi := (List.getElem?_eq_some_iff.1 hx).1
  have := done_step h hi
  rwa [val_strong lv sos eos hx hn, set_same (by rw [done_get h (by omega), hx])] at this
theorem done_start (l : List Int) (lv sos eos : Int) : Done l lv sos eos l 0 := by simp [Done]
theorem done_end {l C : List Int} {lv sos eos : Int} (h : Done l lv sos eos C l.length) : C = neuL l lv sos eos := by
  unfold Done at h
  rw [h, List.drop_eq_nil_of_le (Nat.le_refl _), List.append_nil, List.take_of_length_le (by rw [neuL_length]; exact Nat.le_refl _)]

/-- all from i to t are neutral -/
def AllN (l : List Int) (i t : Nat) : Prop := ∀ j x, i ≤ j → j < t → l[j]? = some x → neu x = true
theorem all_step {l : List Int} {i t : Nat} {x : Int} (h : AllN l i t) (hx : l[t]? = some x) (hn : neu x = true) : AllN l i (t + 1) := by
  intro j y h1 h2 hy
  by_cases e : j = t
  · subst e
    rw [hx] at hy
    injection hy with hy
    rw [← hy]
    exact hn
  · exact h j y h1 (by omega) hy
theorem prev_run {l : List Int} {s : Int} {i t : Nat} (h : AllN l i t) (ht : t ≤ l.length) : ∀ j, i ≤ j → j < t → prevW l s j = prevW l s i := by
  intro j
  induction j with
  | zero => intro h1 _; rw [show i = 0 from by omega]
  | succ j ih =>
    intro h1 h2
    by_cases e : i = j + 1
    · rw [e]
    · have hj : j < l.length := by omega
      have hx := List.getElem?_eq_getElem hj
      rw [prevW, getD_of hx, h j _ (by omega) (by omega) hx, if_pos rfl]
      exact ih (by omega) (by omega)
theorem next_run {l : List Int} {e : Int} {i t : Nat} (h : AllN l i t) (ht : t ≤ l.length) : ∀ d j, j + d = t → i ≤ j → nextW e (l.drop j) = nextW e (l.drop t) := by
  intro d
  induction d with
  | zero => intro j hj _; rw [show j = t from by omega]
  | succ d ih =>
    intro j hj hi
    have hjl : j < l.length := by omega
    have hx := List.getElem?_eq_getElem hjl
    rw [drop_at hx, nextW, h j _ hi (by omega) hx, if_pos rfl]
    exact ih (j + 1) (by omega) (by omega)
/-- in a run of neutrals every place becomes the same -/
theorem val_run {l : List Int} {lv sos eos : Int} {i t : Nat} (h : AllN l i t) (ht : t ≤ l.length) (j : Nat) (h1 : i ≤ j) (h2 : j < t) :
    valAt l lv sos eos j = mix lv (prevW l (en sos) i) (nextW (en eos) (l.drop t)) := by
  have hj : j < l.length := by omega
  have hx := List.getElem?_eq_getElem hj
  rw [valAt, getD_of hx, h j _ h1 h2 hx, if_pos rfl, prev_run h ht j h1 h2, next_run h ht (t - (j + 1)) (j + 1) (by omega) (by omega)]
theorem next_stop {l : List Int} {e x : Int} {t : Nat} (hx : l[t]? = some x) (hn : neu x = false) : nextW e (l.drop t) = wy x := by
  rw [drop_at hx, nextW, hn]; rfl
theorem next_end {l : List Int} {e : Int} {t : Nat} (h : l.length ≤ t) : nextW e (l.drop t) = e := by
  rw [List.drop_eq_nil_of_le h]; rfl
theorem prev_at {l : List Int} {s x : Int} {i : Nat} (hx : l[i]? = some x) (hn : neu x = false) : prevW l s (i + 1) = wy x := by
  rw [prevW, getD_of hx, hn]; rfl
/-- place i is at the head of a run, if it is neutral at all -/
def Bnd (l : List Int) (i : Nat) : Prop := i = 0 ∨ (∀ x, l[i - 1]? = some x → neu x = false) ∨ ∀ x, l[i]? = some x → neu x = false
end Go.Proofs.Ythlmbmopdjnjaaa
