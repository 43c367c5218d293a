/-
  The contract of slices.Reverse at a part of a row of ints: that part stands turned round behind the call, and nothing else has turned.
-/
import Derived.Test.YtlcijmllffablaaBase
import Derived.Test.YtlcijmllffablaaRows
import Derived.RegionTactic
import Derived.ChangeAlike
import Derived.BigRegion
namespace Go.Proofs.Ytlcijmllffablaa
open Go.RowKit

/-- the part from off on, m long, turned round -/
def turned {α : Type} (off m : Nat) (L : List α) : List α := L.take off ++ ((L.drop off).take m).reverse ++ L.drop (off + m)

theorem turned_length {α : Type} (off m : Nat) (L : List α) (h : off + m ≤ L.length) : (turned off m L).length = L.length := by
  simp [turned]
  omega
theorem turned_in {α : Type} (off m : Nat) (L : List α) (h : off + m ≤ L.length) (t : Nat) (ht : t < m) : (turned off m L)[off + t]? = L[off + (m - 1 - t)]? := by
  unfold turned
  rw [List.append_assoc, List.getElem?_append_right (by simp; omega), List.length_take, Nat.min_eq_left (by omega), Nat.add_sub_cancel_left,
    List.getElem?_append_left (by simp; omega), List.getElem?_reverse (by simp; omega)]
  have e : ((L.drop off).take m).length = m := by simp; omega
  rw [e, List.getElem?_take, if_pos (by omega), List.getElem?_drop]
theorem turned_out {α : Type} (off m : Nat) (L : List α) (h : off + m ≤ L.length) (t : Nat) (ht : t < off ∨ off + m ≤ t) : (turned off m L)[t]? = L[t]? := by
  unfold turned
  rcases ht with ht | ht
  · rw [List.append_assoc, List.getElem?_append_left (by simp; omega), List.getElem?_take, if_pos ht]
  · have e : (L.take off ++ ((L.drop off).take m).reverse).length = off + m := by simp; omega
    rw [List.getElem?_append_right (by omega), e, List.getElem?_drop, show off + m + (t - (off + m)) = t from by omega]

/-- so far: the outer parts are exchanged -/
def Part (off m : Nat) (L C : List Int) (i : Nat) : Prop := C.length = L.length ∧ ∀ t, C[t]? = if off + i ≤ t ∧ t + i + 1 ≤ off + m then L[t]? else (turned off m L)[t]?

theorem part_start (off m : Nat) (L : List Int) (h : off + m ≤ L.length) : Part off m L L 0 :=
  ⟨rfl, fun t => by
    split
    · rfl
    · rw [turned_out off m L h t (by omega)]⟩
theorem part_end (off m : Nat) (L C : List Int) (i : Nat) (h : off + m ≤ L.length) (hi : m ≤ 2 * i + 1) (hp : Part off m L C i) : C = turned off m L := by
  apply List.ext_getElem?
  intro t
  rw [hp.2 t]
  split
  · have : t = off + i := by omega
    subst this
    rw [turned_in off m L h i (by omega)]
    congr 1
    omega
  · rfl
theorem part_step (off m : Nat) (L C : List Int) (i : Nat) (x y : Int) (h : off + m ≤ L.length) (hi : 2 * i + 1 < m) (hp : Part off m L C i)
    (hx : C[off + i]? = some x) (hy : C[off + (m - 1 - i)]? = some y) : Part off m L ((C.set (off + i) y).set (off + (m - 1 - i)) x) (i + 1) := by
  have hl := hp.1
  refine ⟨by simp [hl], fun t => ?_⟩
  have h1 := hp.2 (off + i)
  rw [if_pos (by omega), hx] at h1
  have h2 := hp.2 (off + (m - 1 - i))
  rw [if_pos (by omega), hy] at h2
  by_cases e1 : t = off + (m - 1 - i)
  · subst e1
    rw [List.getElem?_set_self (by simp; omega), if_neg (by omega), turned_in off m L h _ (by omega), h1]
    congr 1
    omega
  · rw [List.getElem?_set_ne (by omega)]
    by_cases e2 : t = off + i
    · subst e2
      rw [List.getElem?_set_self (by omega), if_neg (by omega), turned_in off m L h _ (by omega), h2]
    · rw [List.getElem?_set_ne (by omega), hp.2 t]
      by_cases e3 : off + i ≤ t ∧ t + i + 1 ≤ off + m
      · rw [if_pos e3, if_pos (by omega)]
      · rw [if_neg e3, if_neg (by omega)]

theorem reverse_calls (g off m c : Nat) (L : List Int) (w : World) (hB : Blk w g 3 (ivs L)) (hm : off + m ≤ L.length) (hl : L.length ≤ 100000) :
    Calls Try.prog 29 #[.slice (some ⟨g, off, none⟩) m c] w fun e w' => e = .returned (.tuple #[]) ∧ Blk w' g 3 (ivs (turned off m L)) ∧ w.grownBy w' (some g) := by
  go_enter Try.func29, Try.ntmps29
  go_wp2
  go_loopw [2, 3] (fun a b wr => ∃ (i : Nat) (j : Int) (C : List Int), a = .int .i64 i ∧ b = .int .i64 j ∧ Hid (j = (m : Int) - 1 - i) ∧ 2 * i ≤ m + 1 ∧ Blk wr g 3 (ivs C) ∧ Hid (Part off m L C i) ∧ w.grownBy wr (some g)) (fun a _ _ => m + 1 - (intOf a).toNat)
  case atStart => exact ⟨0, _, L, rfl, rfl, by unfold Hid; omega, by omega, hB, part_start off m L hm, only_refl _ _⟩
  case round =>
    obtain ⟨i, j, C, rfl, rfl, Hj, hi, hC, HP, hg⟩ := hrel
    clear hB
    by_cases hlt : 2 * i + 1 < m
    · obtain ⟨j', hj'⟩ : ∃ j' : Nat, j = j' := ⟨m - 1 - i, by have := Hj.out; omega⟩
      subst hj'
      have hjn : j' = m - 1 - i := by have := Hj.out; omega
      have hij : (i : Int) < (j' : Int) := by omega
      have hlC := HP.out.1
      obtain ⟨x, hx⟩ : ∃ x, C[off + i]? = some x := ⟨_, List.getElem?_eq_getElem (by omega)⟩
      obtain ⟨y, hy⟩ : ∃ y, C[off + j']? = some y := ⟨_, List.getElem?_eq_getElem (by omega)⟩
      have c1 : wr.cell? ⟨g, off + i, none⟩ = some (.int .i64 x) := by rw [hC.cell, ivs_get, hx]; rfl
      have c2 : wr.cell? ⟨g, off + j', none⟩ = some (.int .i64 y) := by rw [hC.cell, ivs_get, hy]; rfl
      have f1 := hC.frozen (off + i)
      have f2 := hC.frozen (off + j')
      have hC2 := (hC.set_ (off + i) (.int .i64 y)).set_ (off + j') (.int .i64 x)
      have c3 : (wr.setCell ⟨g, off + i, none⟩ (.int .i64 y)).cell? ⟨g, off + j', none⟩ = some (.int .i64 y) := by
        rw [World.cell?_setCell_other _ _ _ _ (by intro e; injection e with _ e _; omega)]; exact c2
      have hm' : (j' : Int) < (m : Int) := by omega
      have him : (i : Int) < (m : Int) := by omega
      have HX := Lib.hid hx
      have HY := Lib.hid hy
      have HJ := Lib.hid hjn
      have HL := Lib.hid hlC
      clear hx hy hjn hlC
      go_wp2
      go_region
      go_wp2
      go_roundw
      case rel =>
        refine ⟨i + 1, (j' : Int) - 1, (C.set (off + i) y).set (off + j') x, by go_num, by go_num, ?_, by omega, ?_, ?_, ?_⟩
        · unfold Hid; have := HJ.out; omega
        · have h := hC2; rw [ivs_set, ivs_set] at h; exact h
        · unfold Hid
          have hy := HY.out
          rw [HJ.out] at hy ⊢
          exact part_step off m L C i x y hm hlt HP.out HX.out hy
        · exact only_drew (only_setCell (only_setCell hg (.inl rfl) _) (.inl rfl) _)
      case measure => simp [intOf]; omega
    · have hnl : ¬ (i : Int) < j := by have := Hj.out; omega
      go_wp2
      go_end0
      refine ⟨rfl, ?_, hg⟩
      have := part_end off m L C i hm (by omega) HP.out
      rw [← this]
      exact hC
end Go.Proofs.Ytlcijmllffablaa
