/-
  Contracts of 'Check', of the program and of the reference. Condition: no more tabs than a slice can hold.
-/
import Derived.Test.YtehjeiojbdpmkaaNext
import Derived.Deep.QuietTactic
import Derived.BigQuiet
namespace Go.Proofs.Ytehjeiojbdpmkaa
open Go.RowKit

def OkAt (l : List (Int × Int)) (i : Nat) (t : Int × Int) : Prop := 0 ≤ t.1 ∧ t.1 ≤ 268435456 ∧ 0 ≤ t.2 ∧ t.2 ≤ 3 ∧ ∀ k u, i = k + 1 → l[k]? = some u → u.1 < t.1
/-- what 'Check' answers -/
def CheckIs (l : List (Int × Int)) (v : Int) : Prop :=
  (v = 1 ∧ ∃ i t, l[i]? = some t ∧ ¬ OkAt l i t) ∨ (v = 5 ∧ 32 < l.length ∧ ∀ i t, l[i]? = some t → OkAt l i t) ∨ (v = 0 ∧ l.length ≤ 32 ∧ ∀ i t, l[i]? = some t → OkAt l i t)
theorem check_is (l : List (Int × Int)) : ∃ v, CheckIs l v := by
  by_cases h : ∀ i t, l[i]? = some t → OkAt l i t
  · by_cases h2 : 32 < l.length
    · exact ⟨5, .inr (.inl ⟨rfl, h2, h⟩)⟩
    · exact ⟨0, .inr (.inr ⟨rfl, by omega, h⟩)⟩
  · refine ⟨1, .inl ⟨rfl, ?_⟩⟩
    apply Classical.byContradiction
    intro hn
    apply h
    intro i t hi
    apply Classical.byContradiction
    intro ho
    exact hn ⟨i, t, hi, ho⟩
theorem check_bad {l : List (Int × Int)} {v : Int} (H : CheckIs l v) {i : Nat} {t : Int × Int} (hi : l[i]? = some t) (hb : ¬ OkAt l i t) : v = 1 := by
  rcases H with ⟨h, _⟩ | ⟨_, _, h⟩ | ⟨_, _, h⟩
  · exact h
  · exact absurd (h i t hi) hb
  · exact absurd (h i t hi) hb
theorem check_many {l : List (Int × Int)} {v : Int} (H : CheckIs l v) (hall : ∀ i t, i < l.length → l[i]? = some t → OkAt l i t) (hm : 32 < l.length) : v = 5 := by
  rcases H with ⟨_, i, t, hi, hb⟩ | ⟨h, _, _⟩ | ⟨_, h, _⟩
  · exact absurd (hall i t (List.getElem?_eq_some_iff.1 hi).1 hi) hb
  · exact h
  · omega
theorem check_ok {l : List (Int × Int)} {v : Int} (H : CheckIs l v) (hall : ∀ i t, i < l.length → l[i]? = some t → OkAt l i t) (hm : l.length ≤ 32) : v = 0 := by
  rcases H with ⟨_, i, t, hi, hb⟩ | ⟨_, h, _⟩ | ⟨h, _, _⟩
  · exact absurd (hall i t (List.getElem?_eq_some_iff.1 hi).1 hi) hb
  · omega
  · exact h

set_option maxHeartbeats 2000000 in
theorem refCheck_calls (A : Option Addr) (c : Nat) (l : List (Int × Int)) (w : World) (hI : Tabs w w.heap.size A l) (hn : l.length ≤ maxLen) (v : Int) (H : Hid (CheckIs l v)) :
    Calls Try.prog 7 #[.slice A l.length c] w fun e w' => e = .returned (.int .i64 v) ∧ ∃ n, w' = w.drewN n := by
  unfold maxLen at hn
  go_enter Try.func7, Try.ntmps7
  go_wp2_with fail
  go_loopw [3] (fun i wr => ∃ k : Nat, i = .int .i64 k ∧ k ≤ l.length ∧ Hid (∀ j t, j < k → l[j]? = some t → OkAt l j t) ∧ ∃ n, wr = w.drewN n) (fun i _ => l.length - (intOf i).toNat)
  case atStart => exact ⟨0, rfl, Nat.zero_le _, (by intro j t hj; omega), 0, rfl⟩
  case round =>
    obtain ⟨k, rfl, hk, HA, n, rfl⟩ := hrel
    by_cases hlt : k < l.length
    · obtain ⟨b, off, t, rfl, hlb, ht, c0, c1⟩ := hI.at_ hlt
      obtain ⟨t0, t1⟩ := t
      dsimp only at c0 c1
      have HT := Lib.hid ht
      clear ht
      have hi : (k : Int) < (l.length : Int) := by omega
      rcases Int.lt_or_le t0 0 with y0 | x0
      · have d1 : decide (t0 < 0) = true := by simpa using y0
        have hv : v = 1 := check_bad H.out HT.out (by rintro ⟨o1, o2, o3, o4, o5⟩; dsimp only at o1 o2 o3 o4; omega)
        subst hv
        go_wp2_with fail
        go_quiet (fail)
        go_wp2_with fail
        go_ret
        exact ⟨rfl, _, World.drewN_drewN _ _ _⟩
      · rcases Int.lt_or_le 268435456 t0 with y1 | x1
        · have d1 : decide (t0 < 0) = false := by simpa using x0
          have d2 : decide (268435456 < t0) = true := by simpa using y1
          have hv : v = 1 := check_bad H.out HT.out (by rintro ⟨o1, o2, o3, o4, o5⟩; dsimp only at o1 o2 o3 o4; omega)
          subst hv
          go_wp2_with fail
          go_quiet (fail)
          go_wp2_with fail
          go_ret
          exact ⟨rfl, _, World.drewN_drewN _ _ _⟩
        · rcases Int.lt_or_le t1 0 with y2 | x2
          · have d1 : decide (t0 < 0) = false := by simpa using x0
            have d2 : decide (268435456 < t0) = false := by simpa using x1
            have d3 : decide (t1 < 0) = true := by simpa using y2
            have hv : v = 1 := check_bad H.out HT.out (by rintro ⟨o1, o2, o3, o4, o5⟩; dsimp only at o1 o2 o3 o4; omega)
            subst hv
            go_wp2_with fail
            go_quiet (fail)
            go_wp2_with fail
            go_ret
            exact ⟨rfl, _, World.drewN_drewN _ _ _⟩
          · rcases Int.lt_or_le 3 t1 with y3 | x3
            · have d1 : decide (t0 < 0) = false := by simpa using x0
              have d2 : decide (268435456 < t0) = false := by simpa using x1
              have d3 : decide (t1 < 0) = false := by simpa using x2
              have d4 : decide (3 < t1) = true := by simpa using y3
              have hv : v = 1 := check_bad H.out HT.out (by rintro ⟨o1, o2, o3, o4, o5⟩; dsimp only at o1 o2 o3 o4; omega)
              subst hv
              go_wp2_with fail
              go_quiet (fail)
              go_wp2_with fail
              go_ret
              exact ⟨rfl, _, World.drewN_drewN _ _ _⟩
            · have e1 := id x0
              have d1 : decide (t0 < 0) = false := by simpa using x0
              have d2 : decide (268435456 < t0) = false := by simpa using x1
              have d3 : decide (t1 < 0) = false := by simpa using x2
              have d4 : decide (3 < t1) = false := by simpa using x3
              clear e1
              rcases Nat.eq_zero_or_pos k with rfl | hk0
              · simp only [Nat.zero_mul, Nat.add_zero] at c0 c1
                have hz : decide (0 < 0) = false := by simp
                go_wp2_with fail
                go_quiet (fail)
                go_wp2_with fail
                go_roundw
                case rel =>
                  refine ⟨1, by go_num, by omega, ?_, _, by first | exact rfl | exact World.drewN_drewN _ _ _⟩
                  intro j u hj hu
                  by_cases e : j = 0
                  · rw [e, HT.out] at hu
                    injection hu with hu
                    rw [← hu]
                    exact ⟨x0, x1, x2, x3, fun k u hk _ => by omega⟩
                  · exact HA.out j u (by omega) hu
                case measure => simp [intOf]; omega
              · obtain ⟨k1, rfl⟩ : ∃ k1, k = k1 + 1 := ⟨k - 1, by omega⟩
                obtain ⟨b', off', p, hA', hlb', hp, g0, g1⟩ := hI.at_ (show k1 < l.length by omega)
                injection hA' with hA'; injection hA' with e1 e2; subst e1; subst e2
                obtain ⟨p0, p1⟩ := p
                dsimp only at g0 g1
                have HP := Lib.hid hp
                clear hp hlb' g1
                have hs : IntKind.i64.wrap (((k1 + 1 : Nat) : Int) - 1) = (k1 : Int) := by rw [IntWalk.i64_in _ (by omega)]; omega
                have hi1 : (k1 : Int) < (l.length : Int) := by omega
                rcases Int.lt_or_le p0 t0 with x4 | y4
                · have d5 : decide (t0 ≤ p0) = false := by simpa using x4
                  go_wp2_with fail
                  go_quiet (fail)
                  go_wp2_with fail
                  go_roundw
                  case rel =>
                    refine ⟨k1 + 1 + 1, by go_num, by omega, ?_, _, by first | exact rfl | exact World.drewN_drewN _ _ _⟩
                    intro j u hj hu
                    by_cases e : j = k1 + 1
                    · rw [e, HT.out] at hu
                      injection hu with hu
                      rw [← hu]
                      exact ⟨x0, x1, x2, x3, fun k u hk hu => by rw [show k = k1 by omega, HP.out] at hu; injection hu with hu; rw [← hu]; exact x4⟩
                    · exact HA.out j u (by omega) hu
                  case measure => simp [intOf]; omega
                · have d5 : decide (t0 ≤ p0) = true := by simpa using y4
                  have hv : v = 1 := check_bad H.out HT.out (by rintro ⟨o1, o2, o3, o4, o5⟩; dsimp only at o1 o2 o3 o4; have := o5 k1 _ rfl HP.out; dsimp only at this; omega)
                  subst hv
                  go_wp2_with fail
                  go_quiet (fail)
                  go_wp2_with fail
                  go_ret
                  exact ⟨rfl, _, World.drewN_drewN _ _ _⟩
    · rcases Nat.lt_or_ge 32 l.length with hm | hm
      · have hv := check_many H.out (fun i t hi ht => HA.out i t (by omega) ht) hm
        subst hv
        have hmi : (32 : Int) < (l.length : Int) := by omega
        go_wp2_with fail
        go_ret
        exact ⟨rfl, _, rfl⟩
      · have hv := check_ok H.out (fun i t hi ht => HA.out i t (by omega) ht) hm
        subst hv
        have hmi : ¬ (32 : Int) < (l.length : Int) := by omega
        go_wp2_with fail
        go_ret
        exact ⟨rfl, _, rfl⟩
set_option maxHeartbeats 2000000 in
theorem check_calls (A : Option Addr) (c : Nat) (l : List (Int × Int)) (w : World) (hI : Tabs w w.heap.size A l) (hn : l.length ≤ maxLen) (v : Int) (H : Hid (CheckIs l v)) :
    Calls Try.prog 17 #[.slice A l.length c] w fun e w' => e = .returned (.int .i64 v) ∧ Below w.heap.size w w' := by
  unfold maxLen at hn
  go_enter Try.func17, Try.ntmps17
  go_wp2_with fail
  go_loopw [7] (fun i wr => ∃ k : Nat, i = .int .i64 k ∧ k ≤ l.length ∧ Hid (∀ j t, j < k → l[j]? = some t → OkAt l j t) ∧ Below w.heap.size w wr) (fun i _ => l.length - (intOf i).toNat)
  case atStart => exact ⟨0, rfl, Nat.zero_le _, (by intro j t hj; omega), Below.refl _ _⟩
  case round =>
    obtain ⟨k, rfl, hk, HA, hbe⟩ := hrel
    by_cases hlt : k < l.length
    · obtain ⟨b, off, t, rfl, hlb, ht, c0, c1⟩ := (hI.below hbe).at_ hlt
      obtain ⟨t0, t1⟩ := t
      dsimp only at c0 c1
      have HT := Lib.hid ht
      clear ht
      have hi : (k : Int) < (l.length : Int) := by omega
      have hlw : b < wr.heap.size := Nat.lt_of_lt_of_le hlb hbe.size
      have hbn := hbe.alloc hbe.size (.cells #[.int .i64 t0, .int .i64 t1] 29)
      rcases Int.lt_or_le t0 0 with y0 | x0
      · have d1 : decide (t0 < 0) = true := by simpa using y0
        have hv : v = 1 := check_bad H.out HT.out (by rintro ⟨o1, o2, o3, o4, o5⟩; dsimp only at o1 o2 o3 o4; omega)
        subst hv
        go_wp2_with fail
        go_quiet (fail)
        go_wp2_with fail
        go_ret
        exact ⟨rfl, below_drewN hbn _⟩
      · rcases Int.lt_or_le 268435456 t0 with y1 | x1
        · have d1 : decide (t0 < 0) = false := by simpa using x0
          have d2 : decide (268435456 < t0) = true := by simpa using y1
          have hv : v = 1 := check_bad H.out HT.out (by rintro ⟨o1, o2, o3, o4, o5⟩; dsimp only at o1 o2 o3 o4; omega)
          subst hv
          go_wp2_with fail
          go_quiet (fail)
          go_wp2_with fail
          go_ret
          exact ⟨rfl, below_drewN hbn _⟩
        · rcases Int.lt_or_le t1 0 with y2 | x2
          · have d1 : decide (t0 < 0) = false := by simpa using x0
            have d2 : decide (268435456 < t0) = false := by simpa using x1
            have d3 : decide (t1 < 0) = true := by simpa using y2
            have hv : v = 1 := check_bad H.out HT.out (by rintro ⟨o1, o2, o3, o4, o5⟩; dsimp only at o1 o2 o3 o4; omega)
            subst hv
            go_wp2_with fail
            go_quiet (fail)
            go_wp2_with fail
            go_ret
            exact ⟨rfl, below_drewN hbn _⟩
          · rcases Int.lt_or_le 3 t1 with y3 | x3
            · have d1 : decide (t0 < 0) = false := by simpa using x0
              have d2 : decide (268435456 < t0) = false := by simpa using x1
              have d3 : decide (t1 < 0) = false := by simpa using x2
              have d4 : decide (3 < t1) = true := by simpa using y3
              have hv : v = 1 := check_bad H.out HT.out (by rintro ⟨o1, o2, o3, o4, o5⟩; dsimp only at o1 o2 o3 o4; omega)
              subst hv
              go_wp2_with fail
              go_quiet (fail)
              go_wp2_with fail
              go_ret
              exact ⟨rfl, below_drewN hbn _⟩
            · have e1 := id x0
              have d1 : decide (t0 < 0) = false := by simpa using x0
              have d2 : decide (268435456 < t0) = false := by simpa using x1
              have d3 : decide (t1 < 0) = false := by simpa using x2
              have d4 : decide (3 < t1) = false := by simpa using x3
              clear e1
              rcases Nat.eq_zero_or_pos k with rfl | hk0
              · simp only [Nat.zero_mul, Nat.add_zero] at c0 c1
                have hz : decide (0 < 0) = false := by simp
                go_wp2_with fail
                go_quiet (fail)
                go_wp2_with fail
                go_roundw
                case rel =>
                  refine ⟨1, by go_num, by omega, ?_, below_drewN hbn _⟩
                  intro j u hj hu
                  by_cases e : j = 0
                  · rw [e, HT.out] at hu
                    injection hu with hu
                    rw [← hu]
                    exact ⟨x0, x1, x2, x3, fun k u hk _ => by omega⟩
                  · exact HA.out j u (by omega) hu
                case measure => simp [intOf]; omega
              · obtain ⟨k1, rfl⟩ : ∃ k1, k = k1 + 1 := ⟨k - 1, by omega⟩
                obtain ⟨b', off', p, hA', hlb', hp, g0, g1⟩ := (hI.below hbe).at_ (show k1 < l.length by omega)
                injection hA' with hA'; injection hA' with e1 e2; subst e1; subst e2
                obtain ⟨p0, p1⟩ := p
                dsimp only at g0 g1
                have HP := Lib.hid hp
                clear hp hlb' g1
                have hs : IntKind.i64.wrap (((k1 + 1 : Nat) : Int) - 1) = (k1 : Int) := by rw [IntWalk.i64_in _ (by omega)]; omega
                have hi1 : (k1 : Int) < (l.length : Int) := by omega
                rcases Int.lt_or_le p0 t0 with x4 | y4
                · have d5 : decide (t0 ≤ p0) = false := by simpa using x4
                  go_wp2_with fail
                  go_quiet (fail)
                  go_wp2_with fail
                  go_roundw
                  case rel =>
                    refine ⟨k1 + 1 + 1, by go_num, by omega, ?_, below_drewN hbn _⟩
                    intro j u hj hu
                    by_cases e : j = k1 + 1
                    · rw [e, HT.out] at hu
                      injection hu with hu
                      rw [← hu]
                      exact ⟨x0, x1, x2, x3, fun k u hk hu => by rw [show k = k1 by omega, HP.out] at hu; injection hu with hu; rw [← hu]; exact x4⟩
                    · exact HA.out j u (by omega) hu
                  case measure => simp [intOf]; omega
                · have d5 : decide (t0 ≤ p0) = true := by simpa using y4
                  have hv : v = 1 := check_bad H.out HT.out (by rintro ⟨o1, o2, o3, o4, o5⟩; dsimp only at o1 o2 o3 o4; have := o5 k1 _ rfl HP.out; dsimp only at this; omega)
                  subst hv
                  go_wp2_with fail
                  go_quiet (fail)
                  go_wp2_with fail
                  go_ret
                  exact ⟨rfl, below_drewN hbn _⟩
    · rcases Nat.lt_or_ge 32 l.length with hm | hm
      · have hv := check_many H.out (fun i t hi ht => HA.out i t (by omega) ht) hm
        subst hv
        have hmi : (32 : Int) < (l.length : Int) := by omega
        go_wp2_with fail
        go_ret
        exact ⟨rfl, hbe⟩
      · have hv := check_ok H.out (fun i t hi ht => HA.out i t (by omega) ht) hm
        subst hv
        have hmi : ¬ (32 : Int) < (l.length : Int) := by omega
        go_wp2_with fail
        go_ret
        exact ⟨rfl, hbe⟩
end Go.Proofs.Ytehjeiojbdpmkaa
