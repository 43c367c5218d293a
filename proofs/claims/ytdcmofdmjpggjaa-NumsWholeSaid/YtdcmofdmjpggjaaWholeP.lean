/-
  Plain: what the shares of a small total are. Conditions: the total and the weights are small.
-/
import Derived.Test.YtdcmofdmjpggjaaRefShare
namespace Go.Proofs.Ytdcmofdmjpggjaa
open Go.RowKit

/-- a number near 0 -/
def sml (n : Int) : Int := n.tmod 1048576
theorem sml_bd (n : Int) : -1048576 < sml n ∧ sml n < 1048576 := by
  have h1 : n.tmod 1048576 < 1048576 := Int.tmod_lt_of_pos n (by omega)
  have h2 := Int.tmod_lt_of_pos (-n) (b := 1048576) (by omega)
  rw [Int.neg_tmod] at h2
  unfold sml
  omega
theorem sm_small (l : List Int) : sm (l.map sml) ≤ 1048576 * (l.length : Int) := by
  induction l with
  | nil => simp [sm]
  | cons x r ih =>
    have := sml_bd x
    rw [List.map_cons, sm, posi, List.length_cons]
    omega
section
variable {T A s : Int}
theorem floor_bd (hA : 0 < A) : partOf T s A * A ≤ T * s ∧ T * s < partOf T s A * A + A := by
  have e := Int.emod_add_mul_ediv (T * s) A
  rw [Int.mul_comm A] at e
  have h1 := Int.emod_nonneg (T * s) (show A ≠ 0 by omega)
  have h2 := Int.emod_lt_of_pos (T * s) hA
  unfold partOf
  generalize (T * s) / A * A = m at *
  omega
theorem part_nonneg (hT : 0 ≤ T) (hs : 0 ≤ s) (hA : 0 < A) : 0 ≤ partOf T s A := Int.ediv_nonneg (Int.mul_nonneg hT hs) (by omega)
theorem part_le (hT : 0 ≤ T) (hs : s ≤ A) (hA : 0 < A) : partOf T s A ≤ T := by
  unfold partOf
  have h : T * s / A < T + 1 := (Int.ediv_lt_iff_lt_mul hA).2 (by
    have := Int.mul_le_mul_of_nonneg_left hs hT
    rw [Int.add_mul, Int.one_mul]
    omega)
  omega
theorem part_neg (hT : T ≤ 0) (hs : 0 ≤ s) (hA : 0 < A) : partOf T s A ≤ 0 := by
  unfold partOf
  have h : T * s / A < 1 := (Int.ediv_lt_iff_lt_mul hA).2 (by
    have := Int.mul_nonneg (show 0 ≤ -T by omega) hs
    rw [Int.neg_mul] at this
    omega)
  omega
theorem part_ge (hT : T ≤ 0) (hs : s ≤ A) (hA : 0 < A) : T ≤ partOf T s A := by
  unfold partOf
  rw [Int.le_ediv_iff_mul_le hA]
  have := Int.mul_le_mul_of_nonneg_left hs (show 0 ≤ -T by omega)
  rw [Int.neg_mul, Int.neg_mul] at this
  omega
theorem part_mono {s2 : Int} (hT : 0 ≤ T) (hs : s ≤ s2) (hA : 0 < A) : partOf T s A ≤ partOf T s2 A := by
  unfold partOf
  exact Int.ediv_le_ediv hA (Int.mul_le_mul_of_nonneg_left hs hT)
theorem part_all (hA : 0 < A) : partOf T A A = T := by
  unfold partOf
  exact Int.mul_ediv_cancel T (by omega)
end
/-- what the law asks of each share -/
structure Good (T A y d : Int) : Prop where
  zero : y ≤ 0 → d = 0
  pos : 0 ≤ T → 0 ≤ d
  lo : -1048576 ≤ d
  hi : d ≤ 1048576
  near1 : -A < d * A - T * posi y
  near2 : d * A - T * posi y < A
theorem share_good {T : Int} {w : List Int} {k : Nat} {y : Int} (hT1 : -1048576 < T) (hT2 : T < 1048576) (hA : 0 < sm w) (hy : w[k]? = some y) : dif T w k = pt T w (k + 1) - pt T w k ∧ Good T (sm w) y (dif T w k) := by
  have hS := sm_at hy
  have hS0 := sm_nonneg (w.take k)
  have hSl := sm_take_le w k
  have hS20 := sm_nonneg (w.take (k + 1))
  have hS2l := sm_take_le w (k + 1)
  obtain ⟨b1, b2⟩ := floor_bd (T := T) (s := sm (w.take k)) hA
  obtain ⟨b3, b4⟩ := floor_bd (T := T) (s := sm (w.take (k + 1))) hA
  have hm : T * sm (w.take (k + 1)) = T * sm (w.take k) + T * posi y := by rw [hS, Int.mul_add]
  have hp0 : 0 ≤ posi y := by unfold posi; omega
  have hbd : -1048576 ≤ pt T w (k + 1) - pt T w k ∧ pt T w (k + 1) - pt T w k ≤ 1048576 := by
    unfold pt
    rcases Int.lt_or_le T 0 with hT | hT
    · have h1 := part_neg (T := T) (Int.le_of_lt hT) hS0 hA
      have h2 := part_ge (T := T) (Int.le_of_lt hT) hSl hA
      have h3 := part_neg (T := T) (Int.le_of_lt hT) hS20 hA
      have h4 := part_ge (T := T) (Int.le_of_lt hT) hS2l hA
      omega
    · have h1 := part_nonneg (T := T) hT hS0 hA
      have h2 := part_le (T := T) hT hSl hA
      have h3 := part_nonneg (T := T) hT hS20 hA
      have h4 := part_le (T := T) hT hS2l hA
      omega
  have hd : dif T w k = pt T w (k + 1) - pt T w k := by
    unfold dif
    exact wrap_in _ (by omega) (by omega)
  refine ⟨hd, ?_⟩
  rw [hd]
  refine ⟨?_, ?_, hbd.1, hbd.2, ?_, ?_⟩
  · intro hy0
    have e : sm (w.take (k + 1)) = sm (w.take k) := by rw [hS, posi]; omega
    unfold pt
    rw [e]
    omega
  · intro hT
    have := part_mono (T := T) (s := sm (w.take k)) (s2 := sm (w.take (k + 1))) hT (by omega) hA
    unfold pt
    omega
  · rw [Int.sub_mul]
    unfold pt
    generalize partOf T (sm (w.take k)) (sm w) * sm w = m1 at *
    generalize partOf T (sm (w.take (k + 1))) (sm w) * sm w = m2 at *
    generalize T * sm (w.take k) = t1 at *
    generalize T * sm (w.take (k + 1)) = t2 at *
    generalize T * posi y = t3 at *
    omega
  · rw [Int.sub_mul]
    unfold pt
    generalize partOf T (sm (w.take k)) (sm w) * sm w = m1 at *
    generalize partOf T (sm (w.take (k + 1))) (sm w) * sm w = m2 at *
    generalize T * sm (w.take k) = t1 at *
    generalize T * sm (w.take (k + 1)) = t2 at *
    generalize T * posi y = t3 at *
    omega
theorem pt_all {T : Int} {w : List Int} (hA : 0 < sm w) : pt T w w.length = T := by
  unfold pt
  rw [List.take_of_length_le (Nat.le_refl _)]
  exact part_all hA
theorem pt_bd {T : Int} {w : List Int} (hT1 : -1048576 < T) (hT2 : T < 1048576) (hA : 0 < sm w) (k : Nat) : -1048576 ≤ pt T w k ∧ pt T w k ≤ 1048576 := by
  have hS0 := sm_nonneg (w.take k)
  have hSl := sm_take_le w k
  unfold pt
  rcases Int.lt_or_le T 0 with hT | hT
  · have h1 := part_neg (T := T) (Int.le_of_lt hT) hS0 hA
    have h2 := part_ge (T := T) (Int.le_of_lt hT) hSl hA
    omega
  · have h1 := part_nonneg (T := T) hT hS0 hA
    have h2 := part_le (T := T) hT hSl hA
    omega
/-- a product of small numbers is small -/
theorem mul_small {a b m n : Int} (h1 : -m ≤ a) (h2 : a ≤ m) (h3 : 0 ≤ b) (h4 : b ≤ n) (hm : 0 ≤ m) : -(m * n) ≤ a * b ∧ a * b ≤ m * n := by
  have k1 := Int.mul_le_mul_of_nonneg_right h2 h3
  have k2 := Int.mul_le_mul_of_nonneg_left h4 hm
  have k3 := Int.mul_le_mul_of_nonneg_right h1 h3
  rw [Int.neg_mul] at k3
  omega

theorem small_calls (n : Int) (w : World) (t : Int) (H : Hid (t = sml n)) : Calls Try.prog 22 #[.int .i64 n] w fun e w' => e = .returned (.int .i64 t) ∧ w = w' := by
  have e1 : n.tmod 1048576 = t := H.out.symm
  go_enter Try.func22, Try.ntmps22
  go_wp2_with fail
  go_ret
  exact ⟨rfl, rfl⟩
end Go.Proofs.Ytdcmofdmjpggjaa
