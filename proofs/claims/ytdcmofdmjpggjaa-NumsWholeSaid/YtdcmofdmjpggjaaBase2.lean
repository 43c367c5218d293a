/-
  Rows of the call's own that are appended to side by side: two rows lie in two blocks ('Sep'); what an append to one leaves of another. Plain lemmas; no condition.
-/
import Derived.Test.YtdcmofdmjpggjaaBase
import Derived.Maps.AppendAt
namespace Go.Proofs.Ytdcmofdmjpggjaa
open Go.RowKit

/-- two slices' rows lie in two blocks (or one has none) -/
def Sep (v u : Value) : Prop := v.ownBlock = none ∨ u.ownBlock = none ∨ v.ownBlock ≠ u.ownBlock
theorem Sep.symm {v u : Value} (h : Sep v u) : Sep u v := by
  rcases h with h | h | h
  · exact .inr (.inl h)
  · exact .inl h
  · exact .inr (.inr h.symm)
theorem sep_nil (u : Value) : Sep (.slice none 0 0) u := .inl rfl
theorem sep_nil' (u : Value) : Sep u (.slice none 0 0) := .inr (.inl rfl)
theorem own_lt {w : World} {B : Nat} {e : TypeId} {size n : Nat} {v : Value} {xs : List Value} (h : w.ownsRow B e size v n xs) (g : Nat) (hg : v.ownBlock = some g) : g < w.heap.size := (h.lt g hg).2
section
variable {w w2 : World} {o : Obj} {v v' u : Value} {B : Nat} {e : TypeId} {size m : Nat} {ys : List Value}
/-- an append to v leaves the row u as it was, and the two still lie apart -/
theorem push_other (hu : w.ownsRow B e size u m ys) (hs : Sep v u) (hg : (w.alloc o).grownBy w2 v.ownBlock) (hat : v'.ownBlock = v.ownBlock ∨ v'.ownBlock = some (w.alloc o).heap.size) :
    w2.ownsRow B e size u m ys ∧ Sep v' u := by
  refine ⟨(hu.alloc o).kept hg ?_, ?_⟩
  · rcases hs with h | h | h
    · rw [h]
      cases hb : u.ownBlock with
      | none => exact .inl rfl
      | some g => exact .inr (by simp)
    · exact .inl h
    · exact .inr fun e => h e.symm
  · rcases hat with h | h
    · rcases hs with hs | hs | hs
      · exact .inl (by rw [h]; exact hs)
      · exact .inr (.inl hs)
      · exact .inr (.inr (by rw [h]; exact hs))
    · cases hb : u.ownBlock with
      | none => exact .inr (.inl hb)
      | some g =>
        have := own_lt hu g hb
        refine .inr (.inr ?_)
        rw [h, hb]
        intro e
        injection e with e
        simp at e
        omega
end
/-- 'Below' behind an append to a row of the call's own -/
theorem push_below {w0 w w2 : World} {o : Obj} {v : Value} {B : Nat} {e : TypeId} {size n : Nat} {xs : List Value} (hb : Below w0.heap.size w0 w) (hB : w0.heap.size ≤ B) (hv : w.ownsRow B e size v n xs) (hg : (w.alloc o).grownBy w2 v.ownBlock) :
    Below w0.heap.size w0 w2 := (hb.alloc hb.size o).grown hg (by have := hb.size; simp; omega) (fun k hk => by have := (hv.lt k hk).1; omega)
theorem own_low {w : World} {B B' : Nat} {e : TypeId} {size n : Nat} {v : Value} {xs : List Value} (h : w.ownsRow B e size v n xs) (hB : B' ≤ B) : w.ownsRow B' e size v n xs := by
  refine ⟨h.1, ?_⟩
  rcases h.2 with h2 | ⟨g, cap, cur, hv, hb, r⟩
  · exact .inl h2
  · exact .inr ⟨g, cap, cur, hv, by omega, r⟩
/-- what is owned stays owned over a call that turns nothing that was there -/
theorem own_on {w w' : World} {B : Nat} {e : TypeId} {size n : Nat} {v : Value} {xs : List Value} (h : w.ownsRow B e size v n xs) (hb : Below w.heap.size w w') : w'.ownsRow B e size v n xs := by
  refine ⟨h.1, ?_⟩
  rcases h.2 with h2 | ⟨g, cap, cur, hv, hbg, hh, r⟩
  · exact .inl h2
  · exact .inr ⟨g, cap, cur, hv, hbg, (hb.block g (Array.getElem?_eq_some_iff.1 hh).1).trans hh, r⟩
theorem one_cell (x : Value) (h : x.oneCell' = true) : ∀ u ∈ [x], u.oneCell' = true := by
  intro u hu
  simp only [List.mem_singleton] at hu
  rw [hu]
  exact h
end Go.Proofs.Ytdcmofdmjpggjaa
