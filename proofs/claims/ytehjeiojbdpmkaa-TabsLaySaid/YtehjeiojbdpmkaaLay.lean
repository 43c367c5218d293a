/-
  Plain: where each segment begins; contracts of 'Lay' of the program and of the reference. Conditions: at most 40 segments and 100 tabs, widths and tabs of at most 2 to the 40.
-/
import Derived.Test.YtehjeiojbdpmkaaNext
import Derived.Deep.QuietTactic
import Derived.BigQuiet
namespace Go.Proofs.Ytehjeiojbdpmkaa
open Go.RowKit

def pointOf (wide point : List Int) (i : Nat) : Int := if i < point.length then point.getD i 0 else wide.getD i 0
/-- where segment i begins, x where the one ahead ends -/
def stO (l : List (Int × Int)) (every : Int) (wide point : List Int) (i : Nat) (x : Int) : Int :=
  if i = 0 then 0 else placeOf (nextOf l every x).1 (nextOf l every x).2 x (wide.getD i 0) (pointOf wide point i)
def endAt (l : List (Int × Int)) (every : Int) (wide point : List Int) : Nat → Int
  | 0 => 0
  | i + 1 => stO l every wide point i (endAt l every wide point i) + wide.getD i 0
def layL (l : List (Int × Int)) (every : Int) (wide point : List Int) : List Int := (List.range wide.length).map fun i => stO l every wide point i (endAt l every wide point i)
theorem layL_length (l : List (Int × Int)) (every : Int) (wide point : List Int) : (layL l every wide point).length = wide.length := by simp [layL]
theorem layL_get (l : List (Int × Int)) (every : Int) (wide point : List Int) (i : Nat) (h : i < wide.length) : (layL l every wide point)[i]? = some (stO l every wide point i (endAt l every wide point i)) := by
  rw [layL, List.getElem?_map, List.getElem?_range h]; rfl

def Far (n : Int) : Prop := -1099511627776 ≤ n ∧ n ≤ 1099511627776
def FarL (l : List Int) : Prop := ∀ x ∈ l, Far x
def FarT (l : List (Int × Int)) : Prop := ∀ t ∈ l, Far t.1
theorem far_getD {l : List Int} (h : FarL l) (i : Nat) : Far (l.getD i 0) := by
  rw [List.getD_eq_getElem?_getD]
  cases hx : l[i]? with
  | none => exact ⟨by simp, by simp⟩
  | some x => exact h x (List.mem_of_getElem? hx)
theorem far_point {wide point : List Int} (hw : FarL wide) (hp : FarL point) (i : Nat) : Far (pointOf wide point i) := by
  unfold pointOf
  split
  · exact far_getD hp i
  · exact far_getD hw i
theorem next_bd (l : List (Int × Int)) (every x : Int) (hl : FarT l) (he : every ≤ 1099511627776) : -1099511627776 ≤ (nextOf l every x).1 ∧ (nextOf l every x).1 ≤ max x 0 + 1099511627776 := by
  unfold nextOf
  cases h : l.find? fun t => decide (x < t.1) with
  | some t =>
    have := hl t (List.mem_of_find?_eq_some h)
    have h1 := this.1
    have h2 := this.2
    dsimp only
    omega
  | none =>
    dsimp only
    have he1 : 1 ≤ stepOf every ∧ stepOf every ≤ 1099511627776 := by unfold stepOf; split <;> omega
    have := prod_bd (max x 0) (stepOf every) (by omega) he1.1
    omega
theorem place_bd (at_ kind x wide point : Int) (hw : Far wide) (hp : Far point) : x ≤ placeOf at_ kind x wide point ∧ placeOf at_ kind x wide point ≤ max (at_ + 1099511627776) x := by
  have h1 := hw.1
  have h2 := hw.2
  have h3 := hp.1
  have h4 := hp.2
  unfold placeOf
  split
  · omega
  · split
    · omega
    · split <;> omega
theorem st_bd (l : List (Int × Int)) (every : Int) (wide point : List Int) (hl : FarT l) (he : every ≤ 1099511627776) (hw : FarL wide) (hp : FarL point) (i : Nat) (x : Int) (b : Int) (hb : 0 ≤ b) (hx : -b ≤ x ∧ x ≤ b) :
    -b ≤ stO l every wide point i x ∧ stO l every wide point i x ≤ b + 2199023255552 := by
  unfold stO
  split
  · omega
  · have h1 := next_bd l every x hl he
    have h2 := place_bd (nextOf l every x).1 (nextOf l every x).2 x (wide.getD i 0) (pointOf wide point i) (far_getD hw i) (far_point hw hp i)
    omega
theorem end_bd (l : List (Int × Int)) (every : Int) (wide point : List Int) (hl : FarT l) (he : every ≤ 1099511627776) (hw : FarL wide) (hp : FarL point) : ∀ i : Nat, -(3298534883328 * (i : Int)) ≤ endAt l every wide point i ∧ endAt l every wide point i ≤ 3298534883328 * (i : Int)
  | 0 => by simp [endAt]
  | i + 1 => by
    have ih := end_bd l every wide point hl he hw hp i
    have h1 := st_bd l every wide point hl he hw hp i _ (3298534883328 * (i : Int)) (by omega) ih
    have h2 := far_getD hw i
    have h3 := h2.1
    have h4 := h2.2
    rw [endAt]
    omega

/-- the first i places are filled as they should be -/
def Filled (N C : List Int) (i : Nat) : Prop := C.length = N.length ∧ ∀ j, j < i → C[j]? = N[j]?
theorem filled_step {N C : List Int} {x : Int} {i : Nat} (h : Filled N C i) (hx : N[i]? = some x) : Filled N (C.set i x) (i + 1) := by
  obtain ⟨h1, h2⟩ := h
  have hi := (List.getElem?_eq_some_iff.1 hx).1
  refine ⟨by simpa using h1, fun j hj => ?_⟩
  by_cases e : j = i
  · subst e
    rw [List.getElem?_set_self (by omega), hx]
  · rw [List.getElem?_set_ne (by omega)]
    exact h2 j (by omega)
theorem filled_end {N C : List Int} (h : Filled N C N.length) : C = N := by
  apply List.ext_getElem?
  intro j
  by_cases hj : j < N.length
  · exact h.2 j hj
  · rw [List.getElem?_eq_none (by rw [h.1]; omega), List.getElem?_eq_none (by omega)]
end Go.Proofs.Ytehjeiojbdpmkaa
