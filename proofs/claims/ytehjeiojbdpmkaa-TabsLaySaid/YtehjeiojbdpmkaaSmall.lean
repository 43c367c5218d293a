/-
  Contracts of 'near', 'down', 'Half' and 'Place', of the program and of the reference. Conditions: numbers far from the edges of an int.
-/
import Derived.Test.YtehjeiojbdpmkaaRow
import Derived.Test.YtehjeiojbdpmkaaRows
namespace Go.Proofs.Ytehjeiojbdpmkaa
open Go.RowKit

def nearB (n : Int) : Bool := decide (-1099511627776 ≤ n ∧ n ≤ 1099511627776)
theorem near_calls (n : Int) (b : Bool) (H : Hid (nearB n = b)) (w : World) : Calls Try.prog 8 #[.int .i64 n] w fun e w' => e = .returned (.bool b) ∧ w = w' := by
  rcases (show n < -1099511627776 ∨ 1099511627776 < n ∨ (-1099511627776 ≤ n ∧ n ≤ 1099511627776) by omega) with h | h | ⟨h, h'⟩
  · have hb : b = false := by rw [← H.out]; simp [nearB]; omega
    subst hb
    clear H
    go_enter Try.func8, Try.ntmps8
    go_wp2
    go_ret
    exact ⟨rfl, rfl⟩
  · have hb : b = false := by rw [← H.out]; simp [nearB]; omega
    subst hb
    clear H
    go_enter Try.func8, Try.ntmps8
    go_wp2
    go_ret
    exact ⟨ret_bool (by simp; omega), rfl⟩
  · have hb : b = true := by rw [← H.out]; simp [nearB]; omega
    subst hb
    clear H
    go_enter Try.func8, Try.ntmps8
    go_wp2
    go_ret
    exact ⟨rfl, rfl⟩

theorem tdiv2 (n : Int) : (n.tmod 2 < 0 → n / 2 = n.tdiv 2 - 1) ∧ (¬ n.tmod 2 < 0 → n / 2 = n.tdiv 2) := by
  have e := Int.mul_tdiv_add_tmod n 2
  have h1 : n.tmod 2 < 2 := Int.tmod_lt_of_pos n (by omega)
  have h2 := Int.tmod_lt_of_pos (-n) (b := 2) (by omega)
  rw [Int.neg_tmod] at h2
  omega

theorem down_calls (n : Int) (w : World) (h1 : -1152921504606846976 ≤ n) (h2 : n ≤ 1152921504606846976) (q : Int) (H : Hid (q = n / 2)) :
    Calls Try.prog 18 #[.int .i64 n, .int .i64 2] w fun e w' => e = .returned (.int .i64 q) ∧ w = w' := by
  obtain ⟨t1, t2⟩ := tdiv2 n
  have e := Int.mul_tdiv_add_tmod n 2
  have m1 : n.tmod 2 < 2 := Int.tmod_lt_of_pos n (by omega)
  have m2 := Int.tmod_lt_of_pos (-n) (b := 2) (by omega)
  rw [Int.neg_tmod] at m2
  have b1 : -1152921504606846977 ≤ n.tdiv 2 := by omega
  have b2 : n.tdiv 2 ≤ 1152921504606846976 := by omega
  by_cases hm : n.tmod 2 < 0
  · have HQ : Hid (q = n.tdiv 2 - 1) := by have h := H.out; rw [t1 hm] at h; exact h
    clear t1 t2 e m1 m2 H
    go_enter Try.func18, Try.ntmps18
    go_wp2
    go_ret
    exact ⟨ret_int HQ.out.symm, rfl⟩
  · have HQ : Hid (q = n.tdiv 2) := by have h := H.out; rw [t2 hm] at h; exact h
    clear t1 t2 e m1 m2 H
    go_enter Try.func18, Try.ntmps18
    go_wp2
    go_ret
    exact ⟨ret_int HQ.out.symm, rfl⟩
theorem half_calls (n : Int) (w : World) (h1 : -1152921504606846976 ≤ n) (h2 : n ≤ 1152921504606846976) (q : Int) (H : Hid (q = n / 2)) :
    Calls Try.prog 19 #[.int .i64 n] w fun e w' => e = .returned (.int .i64 q) ∧ w = w' := by
  have e := Int.mul_tdiv_add_tmod n 2
  have m1 : n.tmod 2 < 2 := Int.tmod_lt_of_pos n (by omega)
  have m2 := Int.tmod_lt_of_pos (-n) (b := 2) (by omega)
  rw [Int.neg_tmod] at m2
  have e' := Int.mul_tdiv_add_tmod (n - 1) 2
  have m1' : (n - 1).tmod 2 < 2 := Int.tmod_lt_of_pos (n - 1) (by omega)
  have m2' := Int.tmod_lt_of_pos (-(n - 1)) (b := 2) (by omega)
  rw [Int.neg_tmod] at m2'
  by_cases hm : n.tmod 2 = 0
  · have hd : (n.tmod 2 != 0) = false := by simp [hm]
    have HQ : Hid (q = n.tdiv 2) := by have h := H.out; unfold Hid; omega
    have b1 : -1152921504606846977 ≤ n.tdiv 2 := by omega
    have b2 : n.tdiv 2 ≤ 1152921504606846976 := by omega
    clear e m1 m2 e' m1' m2' H hm
    go_enter Try.func19, Try.ntmps19
    go_wp2
    go_ret
    exact ⟨ret_int HQ.out.symm, rfl⟩
  · have hd : (n.tmod 2 != 0) = true := by simp [hm]
    have HQ : Hid (q = (n - 1).tdiv 2) := by
      have h := H.out
      unfold Hid
      have hz : (n - 1).tmod 2 = 0 := by
        rw [Int.tmod_def]
        rcases Int.lt_or_le n 1 with hn | hn
        · have := Int.emod_emod_of_dvd n (Int.dvd_refl 2)
          omega
        · omega
      omega
    have b1 : -1152921504606846978 ≤ (n - 1).tdiv 2 := by omega
    have b2 : (n - 1).tdiv 2 ≤ 1152921504606846976 := by omega
    clear e m1 m2 e' m1' m2' H hm
    go_enter Try.func19, Try.ntmps19
    go_wp2
    go_ret
    exact ⟨ret_int HQ.out.symm, rfl⟩
def placeOf (at_ kind x wide point : Int) : Int := max (if kind = 1 then at_ - wide else if kind = 2 then at_ - wide / 2 else if kind = 3 then at_ - point else at_) x

set_option maxHeartbeats 1000000 in
theorem place_calls (at_ kind x wide point : Int) (w : World) (ha1 : -288230376151711744 ≤ at_) (ha2 : at_ ≤ 288230376151711744) (hw1 : -288230376151711744 ≤ wide) (hw2 : wide ≤ 288230376151711744) (hp1 : -288230376151711744 ≤ point) (hp2 : point ≤ 288230376151711744) (v : Int) (H : Hid (v = placeOf at_ kind x wide point)) :
    Calls Try.prog 12 #[.agg #[.int .i64 at_, .int .i64 kind], .int .i64 x, .int .i64 wide, .int .i64 point] w fun e w' => e = .returned (.int .i64 v) ∧ Below w.heap.size w w' := by
  have hbel : Below w.heap.size w (w.alloc (.cells #[.int .i64 at_, .int .i64 kind] 29)) := (Below.refl _ _).alloc (Nat.le_refl _) _
  obtain ⟨q, hq⟩ : ∃ q, q = wide / 2 := ⟨_, rfl⟩
  have HQ := Lib.hid hq
  have hq1 : -288230376151711745 ≤ q := by omega
  have hq2 : q ≤ 288230376151711744 := by omega
  clear hq
  rcases (show kind = 1 ∨ kind = 2 ∨ kind = 3 ∨ (kind ≠ 1 ∧ kind ≠ 2 ∧ kind ≠ 3) by omega) with rfl | rfl | rfl | ⟨n1, n2, n3⟩
  · have HV : Hid (v = max (at_ - wide) x) := by
      have h := H.out
      unfold Hid
      rw [h, placeOf]
      rw [if_pos rfl]
    clear H
    rcases Int.lt_or_le (at_ - wide) x with hx | hx
    · go_enter Try.func12, Try.ntmps12
      go_wp2_with fail
      all_goals
        go_ret
        exact ⟨ret_int (by rw [HV.out]; omega), hbel⟩
    · go_enter Try.func12, Try.ntmps12
      go_wp2_with fail
      all_goals
        go_ret
        exact ⟨ret_int (by rw [HV.out]; omega), hbel⟩
  · have HV : Hid (v = max (at_ - q) x) := by
      have h := H.out
      unfold Hid
      rw [h, placeOf]
      rw [if_neg (by omega), if_pos rfl, ← HQ.out]
    clear H
    rcases Int.lt_or_le (at_ - q) x with hx | hx
    · go_enter Try.func12, Try.ntmps12
      go_wp2_with fail
      refine (down_calls wide _ (by omega) (by omega) q HQ).mono ?_
      rintro e w2 ⟨rfl, rfl⟩
      go_wp2_with fail
      all_goals
        go_ret
        exact ⟨ret_int (by rw [HV.out]; omega), hbel⟩
    · go_enter Try.func12, Try.ntmps12
      go_wp2_with fail
      refine (down_calls wide _ (by omega) (by omega) q HQ).mono ?_
      rintro e w2 ⟨rfl, rfl⟩
      go_wp2_with fail
      all_goals
        go_ret
        exact ⟨ret_int (by rw [HV.out]; omega), hbel⟩
  · have HV : Hid (v = max (at_ - point) x) := by
      have h := H.out
      unfold Hid
      rw [h, placeOf]
      rw [if_neg (by omega), if_neg (by omega), if_pos rfl]
    clear H
    rcases Int.lt_or_le (at_ - point) x with hx | hx
    · go_enter Try.func12, Try.ntmps12
      go_wp2_with fail
      all_goals
        go_ret
        exact ⟨ret_int (by rw [HV.out]; omega), hbel⟩
    · go_enter Try.func12, Try.ntmps12
      go_wp2_with fail
      all_goals
        go_ret
        exact ⟨ret_int (by rw [HV.out]; omega), hbel⟩
  · have HV : Hid (v = max (at_) x) := by
      have h := H.out
      unfold Hid
      rw [h, placeOf]
      rw [if_neg n1, if_neg n2, if_neg n3]
    have f1 : (kind == 1) = false := by simpa using n1
    have f2 : (kind == 2) = false := by simpa using n2
    have f3 : (kind == 3) = false := by simpa using n3
    clear n1 n2 n3
    clear H
    rcases Int.lt_or_le (at_) x with hx | hx
    · go_enter Try.func12, Try.ntmps12
      go_wp2_with fail
      all_goals
        go_ret
        exact ⟨ret_int (by rw [HV.out]; omega), hbel⟩
    · go_enter Try.func12, Try.ntmps12
      go_wp2_with fail
      all_goals
        go_ret
        exact ⟨ret_int (by rw [HV.out]; omega), hbel⟩

set_option maxHeartbeats 1000000 in
theorem refPlace_calls (at_ kind x wide point : Int) (w : World) (ha1 : -288230376151711744 ≤ at_) (ha2 : at_ ≤ 288230376151711744) (hw1 : -288230376151711744 ≤ wide) (hw2 : wide ≤ 288230376151711744) (hp1 : -288230376151711744 ≤ point) (hp2 : point ≤ 288230376151711744) (v : Int) (H : Hid (v = placeOf at_ kind x wide point)) :
    Calls Try.prog 13 #[.agg #[.int .i64 at_, .int .i64 kind], .int .i64 x, .int .i64 wide, .int .i64 point] w fun e w' => e = .returned (.int .i64 v) ∧ Below w.heap.size w w' := by
  have hbel : Below w.heap.size w (w.alloc (.cells #[.int .i64 at_, .int .i64 kind] 29)) := (Below.refl _ _).alloc (Nat.le_refl _) _
  obtain ⟨q, hq⟩ : ∃ q, q = wide / 2 := ⟨_, rfl⟩
  have HQ := Lib.hid hq
  have hq1 : -288230376151711745 ≤ q := by omega
  have hq2 : q ≤ 288230376151711744 := by omega
  clear hq
  rcases (show kind = 1 ∨ kind = 2 ∨ kind = 3 ∨ (kind ≠ 1 ∧ kind ≠ 2 ∧ kind ≠ 3) by omega) with rfl | rfl | rfl | ⟨n1, n2, n3⟩
  · have HV : Hid (v = max (at_ - wide) x) := by
      have h := H.out
      unfold Hid
      rw [h, placeOf]
      rw [if_pos rfl]
    clear H
    rcases Int.lt_or_le (at_ - wide) x with hx | hx
    · go_enter Try.func13, Try.ntmps13
      go_wp2_with fail
      all_goals
        go_ret
        exact ⟨ret_int (by rw [HV.out]; omega), hbel⟩
    · go_enter Try.func13, Try.ntmps13
      go_wp2_with fail
      all_goals
        go_ret
        exact ⟨ret_int (by rw [HV.out]; omega), hbel⟩
  · have HV : Hid (v = max (at_ - q) x) := by
      have h := H.out
      unfold Hid
      rw [h, placeOf]
      rw [if_neg (by omega), if_pos rfl, ← HQ.out]
    clear H
    rcases Int.lt_or_le (at_ - q) x with hx | hx
    · go_enter Try.func13, Try.ntmps13
      go_wp2_with fail
      refine (half_calls wide _ (by omega) (by omega) q HQ).mono ?_
      rintro e w2 ⟨rfl, rfl⟩
      go_wp2_with fail
      all_goals
        go_ret
        exact ⟨ret_int (by rw [HV.out]; omega), hbel⟩
    · go_enter Try.func13, Try.ntmps13
      go_wp2_with fail
      refine (half_calls wide _ (by omega) (by omega) q HQ).mono ?_
      rintro e w2 ⟨rfl, rfl⟩
      go_wp2_with fail
      all_goals
        go_ret
        exact ⟨ret_int (by rw [HV.out]; omega), hbel⟩
  · have HV : Hid (v = max (at_ - point) x) := by
      have h := H.out
      unfold Hid
      rw [h, placeOf]
      rw [if_neg (by omega), if_neg (by omega), if_pos rfl]
    clear H
    rcases Int.lt_or_le (at_ - point) x with hx | hx
    · go_enter Try.func13, Try.ntmps13
      go_wp2_with fail
      all_goals
        go_ret
        exact ⟨ret_int (by rw [HV.out]; omega), hbel⟩
    · go_enter Try.func13, Try.ntmps13
      go_wp2_with fail
      all_goals
        go_ret
        exact ⟨ret_int (by rw [HV.out]; omega), hbel⟩
  · have HV : Hid (v = max (at_) x) := by
      have h := H.out
      unfold Hid
      rw [h, placeOf]
      rw [if_neg n1, if_neg n2, if_neg n3]
    have f1 : (kind == 1) = false := by simpa using n1
    have f2 : (kind == 2) = false := by simpa using n2
    have f3 : (kind == 3) = false := by simpa using n3
    clear n1 n2 n3
    clear H
    rcases Int.lt_or_le (at_) x with hx | hx
    · go_enter Try.func13, Try.ntmps13
      go_wp2_with fail
      all_goals
        go_ret
        exact ⟨ret_int (by rw [HV.out]; omega), hbel⟩
    · go_enter Try.func13, Try.ntmps13
      go_wp2_with fail
      all_goals
        go_ret
        exact ⟨ret_int (by rw [HV.out]; omega), hbel⟩

end Go.Proofs.Ytehjeiojbdpmkaa
