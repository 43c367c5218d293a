/-
  Contracts of the small functions of classes, of the program and of the reference. No condition.
-/
import Derived.Test.YthlmbmopdjnjaaaBase2
import Derived.Test.YthlmbmopdjnjaaaRows
namespace Go.Proofs.Ythlmbmopdjnjaaa
open Go.RowKit

def neu (c : Int) : Bool := decide (c = 11 ∨ c = 12 ∨ c = 13 ∨ c = 14 ∨ c = 20 ∨ c = 21 ∨ c = 22 ∨ c = 23)
def wy (c : Int) : Int := if c = 2 ∨ c = 3 ∨ c = 4 ∨ c = 7 then 2 else 1
def en (c : Int) : Int := if c = 2 then 2 else 1
def emb (l : Int) : Int := if l.tmod 2 = 0 then 1 else 2

theorem neu_calls (c : Int) (b : Bool) (H : Hid (neu c = b)) (w : World) : Calls Try.prog 16 #[.int .i64 c] w fun e w' => e = .returned (.bool b) ∧ w = w' := by
  by_cases h : c = 11 ∨ c = 12 ∨ c = 13 ∨ c = 14 ∨ c = 20 ∨ c = 21 ∨ c = 22 ∨ c = 23
  · have hb : b = true := by rw [← H.out]; simpa [neu] using h
    subst hb
    clear H
    rcases h with rfl | rfl | rfl | rfl | rfl | rfl | rfl | rfl <;>
    · go_enter Try.func16, Try.ntmps16
      go_wp2
      go_ret
      exact ⟨rfl, rfl⟩
  · have hb : b = false := by rw [← H.out]; simpa [neu] using h
    subst hb
    have h1 : (c == 11) = false := by simp; omega
    have h2 : (c == 12) = false := by simp; omega
    have h3 : (c == 13) = false := by simp; omega
    have h4 : (c == 14) = false := by simp; omega
    have h5 : (c == 20) = false := by simp; omega
    have h6 : (c == 21) = false := by simp; omega
    have h7 : (c == 22) = false := by simp; omega
    have h8 : (c == 23) = false := by simp; omega
    clear H h
    go_enter Try.func16, Try.ntmps16
    go_wp2
    go_ret
    exact ⟨rfl, rfl⟩
theorem neu1_calls (c : Int) (b : Bool) (H : Hid (neu c = b)) (w : World) : Calls Try.prog 13 #[.int .i64 c] w fun e w' => e = .returned (.bool b) ∧ w = w' := by
  by_cases h : c = 11 ∨ c = 12 ∨ c = 13 ∨ c = 14 ∨ c = 20 ∨ c = 21 ∨ c = 22 ∨ c = 23
  · have hb : b = true := by rw [← H.out]; simpa [neu] using h
    subst hb
    clear H
    rcases h with rfl | rfl | rfl | rfl | rfl | rfl | rfl | rfl <;>
    · go_enter Try.func13, Try.ntmps13
      go_wp2
      go_ret
      exact ⟨rfl, rfl⟩
  · have hb : b = false := by rw [← H.out]; simpa [neu] using h
    subst hb
    have h1 : (c == 11) = false := by simp; omega
    have h2 : (c == 12) = false := by simp; omega
    have h3 : (c == 13) = false := by simp; omega
    have h4 : (c == 14) = false := by simp; omega
    have h5 : (c == 20) = false := by simp; omega
    have h6 : (c == 21) = false := by simp; omega
    have h7 : (c == 22) = false := by simp; omega
    have h8 : (c == 23) = false := by simp; omega
    clear H h
    go_enter Try.func13, Try.ntmps13
    go_wp2
    go_ret
    exact ⟨rfl, rfl⟩
theorem way_calls (c x : Int) (H : Hid (wy c = x)) (w : World) : Calls Try.prog 18 #[.int .i64 c] w fun e w' => e = .returned (.int .i64 x) ∧ w = w' := by
  by_cases h : c = 2 ∨ c = 3 ∨ c = 4 ∨ c = 7
  · have hb : x = 2 := by rw [← H.out, wy, if_pos h]
    subst hb
    clear H
    rcases h with rfl | rfl | rfl | rfl <;>
    · go_enter Try.func18, Try.ntmps18
      go_wp2
      go_ret
      exact ⟨rfl, rfl⟩
  · have hb : x = 1 := by rw [← H.out, wy, if_neg h]
    subst hb
    have h1 : (c == 2) = false := by simp; omega
    have h2 : (c == 3) = false := by simp; omega
    have h3 : (c == 4) = false := by simp; omega
    have h4 : (c == 7) = false := by simp; omega
    clear H h
    go_enter Try.func18, Try.ntmps18
    go_wp2
    go_ret
    exact ⟨rfl, rfl⟩
theorem way1_calls (c x : Int) (H : Hid (wy c = x)) (w : World) : Calls Try.prog 20 #[.int .i64 c] w fun e w' => e = .returned (.int .i64 x) ∧ w = w' := by
  by_cases h : c = 2 ∨ c = 3 ∨ c = 4 ∨ c = 7
  · have hb : x = 2 := by rw [← H.out, wy, if_pos h]
    subst hb
    clear H
    rcases h with rfl | rfl | rfl | rfl <;>
    · go_enter Try.func20, Try.ntmps20
      go_wp2
      go_ret
      exact ⟨rfl, rfl⟩
  · have hb : x = 1 := by rw [← H.out, wy, if_neg h]
    subst hb
    have h1 : (c == 2) = false := by simp; omega
    have h2 : (c == 3) = false := by simp; omega
    have h3 : (c == 4) = false := by simp; omega
    have h4 : (c == 7) = false := by simp; omega
    clear H h
    go_enter Try.func20, Try.ntmps20
    go_wp2
    go_ret
    exact ⟨rfl, rfl⟩
theorem end_calls (c x : Int) (H : Hid (en c = x)) (w : World) : Calls Try.prog 17 #[.int .i64 c] w fun e w' => e = .returned (.int .i64 x) ∧ w = w' := by
  by_cases h : c = 2
  · have hb : x = 2 := by rw [← H.out, en, if_pos h]
    subst hb
    subst h
    clear H
    go_enter Try.func17, Try.ntmps17
    go_wp2
    go_ret
    exact ⟨rfl, rfl⟩
  · have hb : x = 1 := by rw [← H.out, en, if_neg h]
    subst hb
    have h1 : (c == 2) = false := by simp; omega
    clear H h
    go_enter Try.func17, Try.ntmps17
    go_wp2
    go_ret
    exact ⟨rfl, rfl⟩
theorem edge_calls (c x : Int) (H : Hid (en c = x)) (w : World) : Calls Try.prog 19 #[.int .i64 c] w fun e w' => e = .returned (.int .i64 x) ∧ w = w' := by
  by_cases h : c = 2
  · have hb : x = 2 := by rw [← H.out, en, if_pos h]
    subst hb
    subst h
    clear H
    go_enter Try.func19, Try.ntmps19
    go_wp2
    go_ret
    exact ⟨rfl, rfl⟩
  · have hb : x = 1 := by rw [← H.out, en, if_neg h]
    subst hb
    have h1 : (c == 2) = false := by simp; omega
    clear H h
    go_enter Try.func19, Try.ntmps19
    go_wp2
    go_ret
    exact ⟨rfl, rfl⟩
theorem embed_calls (c x : Int) (H : Hid (emb c = x)) (w : World) : Calls Try.prog 11 #[.int .i64 c] w fun e w' => e = .returned (.int .i64 x) ∧ w = w' := by
  by_cases h : c.tmod 2 = 0
  · have hb : x = 1 := by rw [← H.out, emb, if_pos h]
    subst hb
    have h1 : (c.tmod 2 != 0) = false := by simp [h]
    clear H h
    go_enter Try.func11, Try.ntmps11
    go_wp2
    go_ret
    exact ⟨rfl, rfl⟩
  · have hb : x = 2 := by rw [← H.out, emb, if_neg h]
    subst hb
    have h1 : (c.tmod 2 != 0) = true := by simp [h]
    clear H h
    go_enter Try.func11, Try.ntmps11
    go_wp2
    go_ret
    exact ⟨rfl, rfl⟩
theorem embed1_calls (c x : Int) (H : Hid (emb c = x)) (w : World) : Calls Try.prog 12 #[.int .i64 c] w fun e w' => e = .returned (.int .i64 x) ∧ w = w' := by
  by_cases h : c.tmod 2 = 0
  · have hb : x = 1 := by rw [← H.out, emb, if_pos h]
    subst hb
    have h1 : (c.tmod 2 != 0) = false := by simp [h]
    clear H h
    go_enter Try.func12, Try.ntmps12
    go_wp2
    go_ret
    exact ⟨rfl, rfl⟩
  · have hb : x = 2 := by rw [← H.out, emb, if_neg h]
    subst hb
    have h1 : (c.tmod 2 != 0) = true := by simp [h]
    clear H h
    go_enter Try.func12, Try.ntmps12
    go_wp2
    go_ret
    exact ⟨rfl, rfl⟩
end Go.Proofs.Ythlmbmopdjnjaaa
