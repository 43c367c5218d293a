/-
  Contracts of 'size', 'div', 'part' of the program and of 'size', 'times', 'part' of the reference. Conditions: the weights' part is between 0 and their sum, which is above 0.
-/
import Derived.Test.YtdcmofdmjpggjaaDiv
import Derived.Test.YtdcmofdmjpggjaaPartP
namespace Go.Proofs.Ytdcmofdmjpggjaa
open Go.RowKit

theorem ret_i {a a' : Int} (h : a = a') : Ending.returned (.int .i64 a) = Ending.returned (.int .i64 a') := by rw [h]
theorem ret_u {a a' : Int} (h : a = a') : Ending.returned (.int .u64 a) = Ending.returned (.int .u64 a') := by rw [h]

theorem size_calls (n : Int) (h1 : -9223372036854775808 ≤ n) (h2 : n ≤ 9223372036854775807) (w : World) (m : Nat) (H : Hid (m = n.natAbs)) :
    Calls Try.prog 32 #[.int .i64 n] w fun e w' => e = .returned (.int .u64 (m : Int)) ∧ w' = w := by
  rcases Int.lt_or_le n 0 with hn | hn
  · have e1 : IntKind.u64.wrap (-IntKind.u64.wrap n) = (m : Int) := by rw [H.out]; simp only [IntKind.wrap_u64]; omega
    clear h1 h2
    go_enter Try.func32, Try.ntmps32
    go_wp2
    go_ret
    exact ⟨rfl, rfl⟩
  · have e1 : IntKind.u64.wrap n = (m : Int) := by rw [H.out]; simp only [IntKind.wrap_u64]; omega
    clear h1 h2
    go_enter Try.func32, Try.ntmps32
    go_wp2
    go_ret
    exact ⟨rfl, rfl⟩
theorem refSize_calls (n : Int) (h1 : -9223372036854775808 ≤ n) (h2 : n ≤ 9223372036854775807) (w : World) (m : Nat) (H : Hid (m = n.natAbs)) :
    Calls Try.prog 25 #[.int .i64 n] w fun e w' => e = .returned (.int .u64 (m : Int)) ∧ w' = w := by
  rcases Int.lt_or_le n 0 with hn | hn
  · have e1 : IntKind.u64.wrap (IntKind.u64.wrap (-(n + 1)) + 1) = (m : Int) := by rw [H.out]; simp only [IntKind.wrap_u64]; omega
    have e2 : IntKind.i64.wrap (-(n + 1)) = -(n + 1) := IntWalk.i64_in _ (by omega)
    have e3 : IntKind.i64.wrap (n + 1) = n + 1 := IntWalk.i64_in _ (by omega)
    clear h1 h2
    go_enter Try.func25, Try.ntmps25
    go_wp2
    go_ret
    exact ⟨rfl, rfl⟩
  · have e1 : IntKind.u64.wrap n = (m : Int) := by rw [H.out]; simp only [IntKind.wrap_u64]; omega
    clear h1 h2
    go_enter Try.func25, Try.ntmps25
    go_wp2
    go_ret
    exact ⟨rfl, rfl⟩

theorem div64_calls (hi lo y : Nat) (hh : hi < y) (hy : y < 18446744073709551616) (hl : lo < 18446744073709551616) (w : World) (q r : Nat) (HQ : Hid (q = (hi * 18446744073709551616 + lo) / y)) (HR : Hid (r = (hi * 18446744073709551616 + lo) % y)) :
    Calls Try.prog 33 #[.int .u64 (hi : Int), .int .u64 (lo : Int), .int .u64 (y : Int)] w fun e w' => e = .returned (.tuple #[.int .u64 (q : Int), .int .u64 (r : Int)]) ∧ ∃ n, w' = w.drewN n := by
  rw [HQ.out, HR.out]
  rcases Nat.eq_zero_or_pos hi with rfl | h0
  · have h := div_zero lo y (by omega) hy hl w
    rw [Nat.zero_mul, Nat.zero_add]
    exact h
  · exact div_big hi lo y h0 hh hy hl w
theorem mul64_calls (x y : Nat) (hx : x < 18446744073709551616) (hy : y < 18446744073709551616) (w : World) (hi lo : Nat) (HH : Hid (hi = x * y / 18446744073709551616)) (HL : Hid (lo = x * y % 18446744073709551616)) :
    Calls Try.prog 31 #[.int .u64 (x : Int), .int .u64 (y : Int)] w fun e w' => e = .returned (.tuple #[.int .u64 (hi : Int), .int .u64 (lo : Int)]) ∧ w' = w := by
  rw [HH.out, HL.out]
  exact bits_Mul64 x y hx hy w
theorem div_calls (a b : Int) (y : Nat) (a1 : -9223372036854775808 ≤ a) (a2 : a ≤ 9223372036854775807) (b1 : -9223372036854775808 ≤ b) (b2 : b ≤ 9223372036854775807) (hy : y < 18446744073709551616) (hh : a.natAbs * b.natAbs < y * 18446744073709551616) (w : World)
    (q r : Nat) (HQ : Hid (q = a.natAbs * b.natAbs / y)) (HR : Hid (r = a.natAbs * b.natAbs % y)) :
    Calls Try.prog 23 #[.int .i64 a, .int .i64 b, .int .u64 (y : Int)] w fun e w' => e = .returned (.tuple #[.int .u64 (q : Int), .int .u64 (r : Int)]) ∧ ∃ n, w' = w.drewN n := by
  obtain ⟨ma, hma⟩ : ∃ m, m = a.natAbs := ⟨_, rfl⟩
  obtain ⟨mb, hmb⟩ : ∃ m, m = b.natAbs := ⟨_, rfl⟩
  rw [← hma, ← hmb] at hh HQ HR
  obtain ⟨hi, hhi⟩ : ∃ hi, hi = ma * mb / 18446744073709551616 := ⟨_, rfl⟩
  obtain ⟨lo, hlo⟩ : ∃ lo, lo = ma * mb % 18446744073709551616 := ⟨_, rfl⟩
  have hiy : hi < y := by rw [hhi, Nat.div_lt_iff_lt_mul (by omega)]; exact hh
  have hsum : hi * 18446744073709551616 + lo = ma * mb := by rw [hhi, hlo]; exact Nat.div_add_mod' _ _
  have C1 : Hid (∀ w : World, Calls Try.prog 32 #[.int .i64 a] w fun e w' => e = .returned (.int .u64 (ma : Int)) ∧ w' = w) := fun w => size_calls a a1 a2 w ma hma
  have C2 : Hid (∀ w : World, Calls Try.prog 32 #[.int .i64 b] w fun e w' => e = .returned (.int .u64 (mb : Int)) ∧ w' = w) := fun w => size_calls b b1 b2 w mb hmb
  have C3 : Hid (∀ w : World, Calls Try.prog 31 #[.int .u64 (ma : Int), .int .u64 (mb : Int)] w fun e w' => e = .returned (.tuple #[.int .u64 (hi : Int), .int .u64 (lo : Int)]) ∧ w' = w) := fun w => mul64_calls ma mb (by omega) (by omega) w hi lo hhi hlo
  have C4 : Hid (∀ w : World, Calls Try.prog 33 #[.int .u64 (hi : Int), .int .u64 (lo : Int), .int .u64 (y : Int)] w fun e w' => e = .returned (.tuple #[.int .u64 (q : Int), .int .u64 (r : Int)]) ∧ ∃ n, w' = w.drewN n) :=
    fun w => div64_calls hi lo y hiy hy (by rw [hlo]; omega) w q r (by rw [hsum]; exact HQ) (by rw [hsum]; exact HR)
  have hd : decide (y ≤ hi) = false := decide_eq_false (by omega)
  clear hhi hlo hsum hma hmb hh hy a1 a2 b1 b2 hiy
  go_enter Try.func23, Try.ntmps23
  go_wp2_with fail
  refine (C1.out _).mono ?_
  rintro e w' ⟨rfl, rfl⟩
  go_wp2_with fail
  refine (C2.out _).mono ?_
  rintro e w' ⟨rfl, rfl⟩
  go_wp2_with fail
  refine (C3.out _).mono ?_
  rintro e w' ⟨rfl, rfl⟩
  go_wp2_with fail
  refine (C4.out _).mono ?_
  rintro e w' ⟨rfl, n, rfl⟩
  go_wp2_with fail
  go_ret2
  exact ⟨rfl, n, rfl⟩

set_option maxRecDepth 100000 in
theorem part_calls (total s all : Int) (t1 : -9223372036854775808 ≤ total) (t2 : total ≤ 9223372036854775807) (s1 : 0 ≤ s) (s2 : s ≤ all) (a1 : 1 ≤ all) (a2 : all ≤ 9223372036854775807) (w : World) (v : Int) (H : Hid (v = partOf total s all)) :
    Calls Try.prog 34 #[.int .i64 total, .int .i64 s, .int .i64 all] w fun e w' => e = .returned (.int .i64 v) ∧ ∃ n, w' = w.drewN n := by
  obtain ⟨y, hy⟩ : ∃ y : Nat, (y : Int) = all := ⟨all.toNat, by omega⟩
  obtain ⟨x, hx⟩ : ∃ x : Nat, (x : Int) = s := ⟨s.toNat, by omega⟩
  obtain ⟨q, hq⟩ : ∃ q, q = total.natAbs * x / y := ⟨_, rfl⟩
  obtain ⟨r, hr⟩ : ∃ r, r = total.natAbs * x % y := ⟨_, rfl⟩
  have hxs : s.natAbs = x := by omega
  have hxy : x ≤ y := by omega
  have hv := H.out
  rw [← hx, ← hy, part_size total x y (by omega) q r hq hr] at hv
  have hql : q ≤ total.natAbs := by rw [hq]; exact quot_le _ _ _ hxy (by omega)
  have hqr : 0 < r → q < total.natAbs := by rw [hr, hq]; exact quot_lt _ _ _ hxy
  have hpl := prod_le total.natAbs x y (by omega) hxy
  have C : Hid (∀ w : World, Calls Try.prog 23 #[.int .i64 total, .int .i64 s, .int .u64 (y : Int)] w fun e w' => e = .returned (.tuple #[.int .u64 (q : Int), .int .u64 (r : Int)]) ∧ ∃ n, w' = w.drewN n) :=
    fun w => div_calls total s y t1 t2 (by omega) (by omega) (by omega) (by rw [hxs]; omega) w q r (by rw [hxs]; exact hq) (by rw [hxs]; exact hr)
  have ey : IntKind.u64.wrap all = (y : Int) := by rw [IntKind.wrap_u64]; omega
  have HV := Lib.hid hv
  have HQL := Lib.hid hql
  have HQR := Lib.hid hqr
  have HTB : Hid (total.natAbs ≤ 9223372036854775808) := size_le t1 t2
  have HTB2 := Lib.hid t2
  clear hy hx hxs hxy hq hr hv hql hqr hpl t1 t2 a1 a2 s1 s2 H
  rcases Int.lt_or_le total 0 with ht | ht
  · have hv2 := HV.out
    rw [if_neg (by omega)] at hv2
    have hq0 := HQL.out
    have hb0 := HTB.out
    rcases Nat.eq_zero_or_pos r with h0 | h0
    · have e1 : IntKind.i64.wrap (IntKind.u64.wrap (-(q : Int))) = v := by
        rw [if_neg (by omega)] at hv2
        rw [hv2, IntKind.wrap_u64, IntKind.wrap_i64]
        omega
      subst h0
      clear hv2 hq0 hb0
      go_enter Try.func34, Try.ntmps34
      go_wp2_with fail
      refine (C.out _).mono ?_
      rintro e w' ⟨rfl, n, rfl⟩
      go_wp2_with fail
      go_ret
      exact ⟨rfl, n, rfl⟩
    · have hq1 := HQR.out h0
      obtain ⟨q2, hq2⟩ : ∃ q2 : Nat, q2 = q + 1 := ⟨_, rfl⟩
      have e0 : IntKind.u64.wrap ((q : Int) + 1) = (q2 : Int) := by rw [IntKind.wrap_u64]; omega
      have e1 : IntKind.i64.wrap (IntKind.u64.wrap (-(q2 : Int))) = v := by
        rw [if_pos h0] at hv2
        rw [hv2, IntKind.wrap_u64, IntKind.wrap_i64]
        omega
      clear hv2 hq0 hb0 hq1 hq2
      go_enter Try.func34, Try.ntmps34
      go_wp2_with fail
      refine (C.out _).mono ?_
      rintro e w' ⟨rfl, n, rfl⟩
      go_wp2_with fail
      go_ret
      exact ⟨rfl, n, rfl⟩
  · have hv2 := HV.out
    rw [if_pos ht] at hv2
    have hq0 := HQL.out
    have hb0 := HTB2.out
    have e1 : IntKind.i64.wrap (q : Int) = v := by rw [hv2, IntKind.wrap_i64]; omega
    clear hv2 hq0 hb0
    go_enter Try.func34, Try.ntmps34
    go_wp2_with fail
    refine (C.out _).mono ?_
    rintro e w' ⟨rfl, n, rfl⟩
    go_wp2_with fail
    go_ret
    exact ⟨rfl, n, rfl⟩

set_option maxHeartbeats 2000000 in
set_option maxRecDepth 100000 in
theorem times_calls (a b den : Nat) (most : Int) (ha : a < 18446744073709551616) (hb : b < 18446744073709551616) (hd0 : 0 < den) (hd : den < 9223372036854775808) (mn : Nat) (hmn : (mn : Int) = most) (hm2 : mn ≤ 9223372036854775808) (hm : a * b ≤ mn * den) (w : World)
    (q r : Nat) (HQ : Hid (q = a * b / den)) (HR : Hid (r = a * b % den)) :
    Calls Try.prog 24 #[.int .u64 (a : Int), .int .u64 (b : Int), .int .u64 (den : Int), .int .u64 most] w fun e w' => e = .returned (.tuple #[.int .u64 (q : Int), .int .u64 (r : Int)]) ∧ w = w' := by
  have HA := Lib.hid ha
  have HB := Lib.hid hb
  have HD := Lib.hid hd
  have HM := Lib.hid hm
  have HMN := Lib.hid hmn
  have HM2 := Lib.hid hm2
  have h64 : Hid (Inv a den (b / 2 ^ 64) 0 0) := by
    have : b / 2 ^ 64 = 0 := Nat.div_eq_of_lt hb
    rw [this]
    exact ⟨by simp, hd0⟩
  obtain ⟨ad, had⟩ : ∃ ad, ad = a / den := ⟨_, rfl⟩
  obtain ⟨am, ham⟩ : ∃ am, am = a % den := ⟨_, rfl⟩
  have e1 : IntKind.u64.wrap ((a : Int) / (den : Int)) = (ad : Int) := by
    have := Nat.div_le_self a den
    rw [← Int.natCast_ediv, ← had, IntKind.wrap_u64]
    omega
  have e2 : (a : Int) % (den : Int) = (am : Int) := by rw [ham]; exact (Int.natCast_emod a den).symm
  have HAM : Hid (am < den) := by rw [ham]; exact Nat.mod_lt _ hd0
  have HAD := Lib.hid had
  have HAM2 := Lib.hid ham
  have hdz : ¬ (den : Int) = 0 := by omega
  clear ha hb hd hm hmn hm2 had ham hd0
  go_enter Try.func24, Try.ntmps24
  go_wp2_with fail
  go_loop [10, 11, 12] (fun vq vr vi => ∃ k q r : Nat, k ≤ 64 ∧ vq = .int .u64 (q : Int) ∧ vr = .int .u64 (r : Int) ∧ Hid (Inv a den (b / 2 ^ k) q r) ∧ ((k = 0 ∧ vi = .int .i64 (-1)) ∨ ∃ j : Nat, k = j + 1 ∧ vi = .int .i64 (j : Int))) (fun _ _ i => (intOf i + 1).toNat)
  case atStart => exact ⟨64, 0, 0, Nat.le_refl _, rfl, rfl, h64, .inr ⟨63, rfl, rfl⟩⟩
  case round =>
    obtain ⟨k, q0, r0, hk, rfl, rfl, HI, hik⟩ := hrel
    rcases hik with ⟨rfl, rfl⟩ | ⟨j, rfl, rfl⟩
    · have hend := HI.out
      rw [Nat.pow_zero, Nat.div_one] at hend
      obtain ⟨h1, h2⟩ := inv_end hend
      rw [← HQ.out] at h1
      rw [← HR.out] at h2
      subst h1
      subst h2
      clear hend
      go_wp2_with fail
      go_ret2
      exact ⟨rfl, rfl⟩
    · obtain ⟨B, hB⟩ : ∃ B, B = b / 2 ^ j := ⟨_, rfl⟩
      obtain ⟨X, hX⟩ : ∃ X, X = b / 2 ^ (j + 1) := ⟨_, rfl⟩
      obtain ⟨bit, hbit⟩ : ∃ bit, bit = B % 2 := ⟨_, rfl⟩
      have hBX : B = 2 * X + bit := by rw [hbit, hB, hX]; exact half_bit b j
      have hBb : B ≤ b := by rw [hB]; exact Nat.div_le_self _ _
      have hXB : 2 * X ≤ b := by omega
      have hI := HI.out
      rw [← hX] at hI
      have hdl := HD.out
      have hBl := HB.out
      have hr0 := hI.lt
      have e3 : (b : Int) / 2 ^ j = (B : Int) := by rw [hB, ← pow_cast, ← Int.natCast_ediv]
      have e4 : bits .and .u64 (B : Int) 1 = (bit : Int) := by
        have h := bits_and_u64_nat B 1 (by omega) (by omega)
        rw [Nat.and_one_is_mod, ← hbit] at h
        exact h
      obtain ⟨q1, hq1⟩ : ∃ q1, q1 = 2 * q0 := ⟨_, rfl⟩
      obtain ⟨r1, hr1⟩ : ∃ r1, r1 = 2 * r0 := ⟨_, rfl⟩
      have w2 : IntKind.u64.wrap (2 * (r0 : Int)) = (r1 : Int) := by rw [IntKind.wrap_u64]; omega
      have hm2 := HM2.out
      have hmn := HMN.out
      have haml := HAM.out
      have HX := Lib.hid hX
      have HB2 := Lib.hid hB
      clear hX hB
      rcases Nat.lt_or_ge r1 den with hc | hc
      · have hI1 := inv_dbl0 hI (by omega)
        rw [← hq1, ← hr1] at hI1
        have hq1b := inv_bd hI1 hXB HM.out
        have w1 : IntKind.u64.wrap (2 * (q0 : Int)) = (q1 : Int) := by rw [IntKind.wrap_u64]; omega
        have hcd : decide (den ≤ r1) = false := decide_eq_false (by omega)
        have hrl := hI1.lt
        rcases Nat.eq_zero_or_pos bit with hbt | hbt
        · have hbd : (bit == 1) = false := by rw [hbt]; rfl
          have hbe : ((bit : Int) == 1) = false := by rw [hbt]; rfl
          have hBe : B = 2 * X := by omega
          rw [← hBe, HB2.out] at hI1
          have HI2 := Lib.hid hI1
          have hmq : decide (most < (q1 : Int)) = false := decide_eq_false (by omega)
          clear hI1 hq1b hrl hI hdl hBl hr0 hm2 hmn haml hBX hBb hXB hbt hBe hbit hq1 hr1 hc
          go_wp2_with fail
          go_round
          case rel =>
            refine ⟨j, q1, r1, by omega, rfl, rfl, HI2, ?_⟩
            rcases Nat.eq_zero_or_pos j with rfl | hj
            · exact .inl ⟨rfl, by go_num⟩
            · obtain ⟨j2, rfl⟩ : ∃ j2, j = j2 + 1 := ⟨j - 1, by omega⟩
              exact .inr ⟨j2, rfl, by go_num⟩
          case measure => simp [intOf]
        · have hb1 : bit = 1 := by omega
          have hbd : (bit == 1) = true := by rw [hb1]; rfl
          have hbe : ((bit : Int) == 1) = true := by rw [hb1]; rfl
          have hBe : B = 2 * X + 1 := by omega
          obtain ⟨q3, hq3⟩ : ∃ q3, q3 = q1 + ad := ⟨_, rfl⟩
          obtain ⟨r3, hr3⟩ : ∃ r3, r3 = r1 + am := ⟨_, rfl⟩
          have w6 : IntKind.u64.wrap ((r1 : Int) + (am : Int)) = (r3 : Int) := by rw [IntKind.wrap_u64]; omega
          rcases Nat.lt_or_ge r3 den with hc3 | hc3
          · have hI2 := inv_add0 hI1 (by rw [← HAM2.out, ← hr3]; exact hc3)
            rw [← HAM2.out, ← HAD.out, ← hq3, ← hr3] at hI2
            have hq3b := inv_bd hI2 (by omega) HM.out
            rw [← hBe, HB2.out] at hI2
            have HI2 := Lib.hid hI2
            have w5 : IntKind.u64.wrap ((q1 : Int) + (ad : Int)) = (q3 : Int) := by rw [IntKind.wrap_u64]; omega
            have hc3d : decide (den ≤ r3) = false := decide_eq_false (by omega)
            have hmq : decide (most < (q3 : Int)) = false := decide_eq_false (by omega)
            clear hI2 hq3b hc3
            clear hI1 hq1b hrl hI hdl hBl hr0 hm2 hmn haml hBX hBb hXB hbt hBe hbit hq1 hr1 hc
            clear hq3 hr3 hb1
            go_wp2_with fail
            go_round
            case rel =>
              refine ⟨j, q3, r3, by omega, rfl, rfl, HI2, ?_⟩
              rcases Nat.eq_zero_or_pos j with rfl | hj
              · exact .inl ⟨rfl, by go_num⟩
              · obtain ⟨j2, rfl⟩ : ∃ j2, j = j2 + 1 := ⟨j - 1, by omega⟩
                exact .inr ⟨j2, rfl, by go_num⟩
            case measure => simp [intOf]
          · have hI2 := inv_add1 hI1 (by rw [← HAM2.out, ← hr3]; exact hc3)
            rw [← HAM2.out, ← HAD.out, ← hq3, ← hr3] at hI2
            have hq3b := inv_bd hI2 (by omega) HM.out
            rw [← hBe, HB2.out] at hI2
            obtain ⟨q4, hq4⟩ : ∃ q4, q4 = q3 + 1 := ⟨_, rfl⟩
            obtain ⟨r4, hr4⟩ : ∃ r4, r4 = r3 - den := ⟨_, rfl⟩
            rw [← hq4, ← hr4] at hI2
            have HI2 := Lib.hid hI2
            have w5 : IntKind.u64.wrap ((q1 : Int) + (ad : Int)) = (q3 : Int) := by rw [IntKind.wrap_u64]; omega
            have w7 : IntKind.u64.wrap ((q3 : Int) + 1) = (q4 : Int) := by rw [IntKind.wrap_u64]; omega
            have w8 : IntKind.u64.wrap ((r3 : Int) - (den : Int)) = (r4 : Int) := by rw [IntKind.wrap_u64]; omega
            have hc3d : decide (den ≤ r3) = true := decide_eq_true (by omega)
            have hmq : decide (most < (q4 : Int)) = false := decide_eq_false (by omega)
            clear hI2 hq3b hc3
            clear hI1 hq1b hrl hI hdl hBl hr0 hm2 hmn haml hBX hBb hXB hbt hBe hbit hq1 hr1 hc
            clear hq3 hr3 hq4 hr4 hb1
            go_wp2_with fail
            go_round
            case rel =>
              refine ⟨j, q4, r4, by omega, rfl, rfl, HI2, ?_⟩
              rcases Nat.eq_zero_or_pos j with rfl | hj
              · exact .inl ⟨rfl, by go_num⟩
              · obtain ⟨j2, rfl⟩ : ∃ j2, j = j2 + 1 := ⟨j - 1, by omega⟩
                exact .inr ⟨j2, rfl, by go_num⟩
            case measure => simp [intOf]
      · have hI1 := inv_dbl1 hI (by omega)
        rw [← hq1, ← hr1] at hI1
        have hq1b := inv_bd hI1 hXB HM.out
        have w1 : IntKind.u64.wrap (2 * (q0 : Int)) = (q1 : Int) := by rw [IntKind.wrap_u64]; omega
        have hcd : decide (den ≤ r1) = true := decide_eq_true (by omega)
        obtain ⟨q2, hq2⟩ : ∃ q2, q2 = q1 + 1 := ⟨_, rfl⟩
        obtain ⟨r2, hr2⟩ : ∃ r2, r2 = r1 - den := ⟨_, rfl⟩
        rw [← hq2, ← hr2] at hI1
        have w3 : IntKind.u64.wrap ((q1 : Int) + 1) = (q2 : Int) := by rw [IntKind.wrap_u64]; omega
        have w4 : IntKind.u64.wrap ((r1 : Int) - (den : Int)) = (r2 : Int) := by rw [IntKind.wrap_u64]; omega
        have hrl := hI1.lt
        rcases Nat.eq_zero_or_pos bit with hbt | hbt
        · have hbd : (bit == 1) = false := by rw [hbt]; rfl
          have hbe : ((bit : Int) == 1) = false := by rw [hbt]; rfl
          have hBe : B = 2 * X := by omega
          rw [← hBe, HB2.out] at hI1
          have HI2 := Lib.hid hI1
          have hmq : decide (most < (q2 : Int)) = false := decide_eq_false (by omega)
          clear hI1 hq1b hrl hI hdl hBl hr0 hm2 hmn haml hBX hBb hXB hbt hBe hbit hq1 hr1 hc hq2 hr2
          go_wp2_with fail
          go_round
          case rel =>
            refine ⟨j, q2, r2, by omega, rfl, rfl, HI2, ?_⟩
            rcases Nat.eq_zero_or_pos j with rfl | hj
            · exact .inl ⟨rfl, by go_num⟩
            · obtain ⟨j2, rfl⟩ : ∃ j2, j = j2 + 1 := ⟨j - 1, by omega⟩
              exact .inr ⟨j2, rfl, by go_num⟩
          case measure => simp [intOf]
        · have hb1 : bit = 1 := by omega
          have hbd : (bit == 1) = true := by rw [hb1]; rfl
          have hbe : ((bit : Int) == 1) = true := by rw [hb1]; rfl
          have hBe : B = 2 * X + 1 := by omega
          obtain ⟨q3, hq3⟩ : ∃ q3, q3 = q2 + ad := ⟨_, rfl⟩
          obtain ⟨r3, hr3⟩ : ∃ r3, r3 = r2 + am := ⟨_, rfl⟩
          have w6 : IntKind.u64.wrap ((r2 : Int) + (am : Int)) = (r3 : Int) := by rw [IntKind.wrap_u64]; omega
          rcases Nat.lt_or_ge r3 den with hc3 | hc3
          · have hI2 := inv_add0 hI1 (by rw [← HAM2.out, ← hr3]; exact hc3)
            rw [← HAM2.out, ← HAD.out, ← hq3, ← hr3] at hI2
            have hq3b := inv_bd hI2 (by omega) HM.out
            rw [← hBe, HB2.out] at hI2
            have HI2 := Lib.hid hI2
            have w5 : IntKind.u64.wrap ((q2 : Int) + (ad : Int)) = (q3 : Int) := by rw [IntKind.wrap_u64]; omega
            have hc3d : decide (den ≤ r3) = false := decide_eq_false (by omega)
            have hmq : decide (most < (q3 : Int)) = false := decide_eq_false (by omega)
            clear hI2 hq3b hc3
            clear hI1 hq1b hrl hI hdl hBl hr0 hm2 hmn haml hBX hBb hXB hbt hBe hbit hq1 hr1 hc hq2 hr2
            clear hq3 hr3 hb1
            go_wp2_with fail
            go_round
            case rel =>
              refine ⟨j, q3, r3, by omega, rfl, rfl, HI2, ?_⟩
              rcases Nat.eq_zero_or_pos j with rfl | hj
              · exact .inl ⟨rfl, by go_num⟩
              · obtain ⟨j2, rfl⟩ : ∃ j2, j = j2 + 1 := ⟨j - 1, by omega⟩
                exact .inr ⟨j2, rfl, by go_num⟩
            case measure => simp [intOf]
          · have hI2 := inv_add1 hI1 (by rw [← HAM2.out, ← hr3]; exact hc3)
            rw [← HAM2.out, ← HAD.out, ← hq3, ← hr3] at hI2
            have hq3b := inv_bd hI2 (by omega) HM.out
            rw [← hBe, HB2.out] at hI2
            obtain ⟨q4, hq4⟩ : ∃ q4, q4 = q3 + 1 := ⟨_, rfl⟩
            obtain ⟨r4, hr4⟩ : ∃ r4, r4 = r3 - den := ⟨_, rfl⟩
            rw [← hq4, ← hr4] at hI2
            have HI2 := Lib.hid hI2
            have w5 : IntKind.u64.wrap ((q2 : Int) + (ad : Int)) = (q3 : Int) := by rw [IntKind.wrap_u64]; omega
            have w7 : IntKind.u64.wrap ((q3 : Int) + 1) = (q4 : Int) := by rw [IntKind.wrap_u64]; omega
            have w8 : IntKind.u64.wrap ((r3 : Int) - (den : Int)) = (r4 : Int) := by rw [IntKind.wrap_u64]; omega
            have hc3d : decide (den ≤ r3) = true := decide_eq_true (by omega)
            have hmq : decide (most < (q4 : Int)) = false := decide_eq_false (by omega)
            clear hI2 hq3b hc3
            clear hI1 hq1b hrl hI hdl hBl hr0 hm2 hmn haml hBX hBb hXB hbt hBe hbit hq1 hr1 hc hq2 hr2
            clear hq3 hr3 hq4 hr4 hb1
            go_wp2_with fail
            go_round
            case rel =>
              refine ⟨j, q4, r4, by omega, rfl, rfl, HI2, ?_⟩
              rcases Nat.eq_zero_or_pos j with rfl | hj
              · exact .inl ⟨rfl, by go_num⟩
              · obtain ⟨j2, rfl⟩ : ∃ j2, j = j2 + 1 := ⟨j - 1, by omega⟩
                exact .inr ⟨j2, rfl, by go_num⟩
            case measure => simp [intOf]

theorem wrap64_is (n : Int) : wrap64 n = IntKind.i64.wrap n := by rw [IntKind.wrap_i64, wrap64]
theorem wrap_in (n : Int) (h1 : -9223372036854775808 ≤ n) (h2 : n ≤ 9223372036854775807) : IntKind.i64.wrap n = n := IntWalk.i64_in n (by omega)
theorem neg_wrap (q : Nat) (hq : q ≤ 9223372036854775808) : IntKind.i64.wrap (-IntKind.i64.wrap (q : Int)) = -(q : Int) := by
  rcases Nat.lt_or_ge q 9223372036854775808 with h | h
  · rw [wrap_in (q : Int) (by omega) (by omega), wrap_in _ (by omega) (by omega)]
  · have e : (q : Int) = 9223372036854775808 := by omega
    rw [e]
    decide +kernel

set_option maxRecDepth 100000 in
theorem refPart_calls (total s all : Int) (t1 : -9223372036854775808 ≤ total) (t2 : total ≤ 9223372036854775807) (s1 : 0 ≤ s) (s2 : s ≤ all) (a1 : 1 ≤ all) (a2 : all ≤ 9223372036854775807) (w : World) (v : Int) (H : Hid (v = partOf total s all)) :
    Calls Try.prog 30 #[.int .i64 total, .int .i64 s, .int .i64 all] w fun e w' => e = .returned (.int .i64 v) ∧ w = w' := by
  obtain ⟨y, hy⟩ : ∃ y : Nat, (y : Int) = all := ⟨all.toNat, by omega⟩
  obtain ⟨x, hx⟩ : ∃ x : Nat, (x : Int) = s := ⟨s.toNat, by omega⟩
  obtain ⟨m, hm⟩ : ∃ m, m = total.natAbs := ⟨_, rfl⟩
  obtain ⟨q, hq⟩ : ∃ q, q = m * x / y := ⟨_, rfl⟩
  obtain ⟨r, hr⟩ : ∃ r, r = m * x % y := ⟨_, rfl⟩
  have hxy : x ≤ y := by omega
  have hv := H.out
  rw [← hx, ← hy, part_size total x y (by omega) q r (by rw [← hm]; exact hq) (by rw [← hm]; exact hr)] at hv
  have hql : q ≤ m := by rw [hq]; exact quot_le _ _ _ hxy (by omega)
  have hqr : 0 < r → q < m := by rw [hr, hq]; exact quot_lt _ _ _ hxy
  have hpl := prod_le m x y (by omega) hxy
  have C1 : Hid (∀ w : World, Calls Try.prog 25 #[.int .i64 total] w fun e w' => e = .returned (.int .u64 (m : Int)) ∧ w' = w) := fun w => refSize_calls total t1 t2 w m hm
  have C2 : Hid (∀ w : World, Calls Try.prog 25 #[.int .i64 s] w fun e w' => e = .returned (.int .u64 (x : Int)) ∧ w' = w) := fun w => refSize_calls s (by omega) (by omega) w x (by unfold Hid; omega)
  have C3 : Hid (∀ w : World, Calls Try.prog 24 #[.int .u64 (m : Int), .int .u64 (x : Int), .int .u64 (y : Int), .int .u64 9223372036854775808] w fun e w' => e = .returned (.tuple #[.int .u64 (q : Int), .int .u64 (r : Int)]) ∧ w = w') :=
    fun w => times_calls m x y 9223372036854775808 (by omega) (by omega) (by omega) (by omega) 9223372036854775808 rfl (Nat.le_refl _) hpl w q r hq hr
  have ey : IntKind.u64.wrap all = (y : Int) := by rw [IntKind.wrap_u64]; omega
  have HV := Lib.hid hv
  have HQL := Lib.hid hql
  have HQR := Lib.hid hqr
  have HTB : Hid (m ≤ 9223372036854775808) := by rw [hm]; exact size_le t1 t2
  have HTB2 := Lib.hid t2
  have HMT := Lib.hid hm
  clear hy hx hxy hq hr hv hql hqr hpl t1 t2 a1 a2 s1 s2 H hm
  rcases Int.lt_or_le total 0 with ht | ht
  · have hv2 := HV.out
    rw [if_neg (by omega)] at hv2
    have hq0 := HQL.out
    have hb0 := HTB.out
    obtain ⟨c1, hc1⟩ : ∃ c1, IntKind.i64.wrap (q : Int) = c1 := ⟨_, rfl⟩
    rcases Nat.eq_zero_or_pos r with h0 | h0
    · have e1 : IntKind.i64.wrap (-c1) = v := by
        rw [if_neg (by omega)] at hv2
        rw [hv2, ← hc1]
        exact neg_wrap q (by omega)
      have e2 : wrap64 (-c1) = v := (wrap64_is _).trans e1
      subst h0
      clear hv2 hq0 hb0
      go_enter Try.func30, Try.ntmps30
      go_wp2_with fail
      refine (C1.out _).mono ?_
      rintro e w' ⟨rfl, rfl⟩
      go_wp2_with fail
      refine (C2.out _).mono ?_
      rintro e w' ⟨rfl, rfl⟩
      go_wp2_with fail
      refine (C3.out _).mono ?_
      rintro e w' ⟨rfl, rfl⟩
      go_wp2_with fail
      go_ret
      exact ⟨rfl, rfl⟩
    · have hq1 := HQR.out h0
      obtain ⟨c2, hc2⟩ : ∃ c2, IntKind.i64.wrap (-c1) = c2 := ⟨_, rfl⟩
      have e1 : IntKind.i64.wrap (c2 - 1) = v := by
        rw [if_pos h0] at hv2
        rw [hv2, ← hc2, ← hc1, neg_wrap q (by omega)]
        exact wrap_in _ (by omega) (by omega)
      have e2 : wrap64 (-c1) = c2 := (wrap64_is _).trans hc2
      have e3 : wrap64 (c2 - 1) = v := (wrap64_is _).trans e1
      clear hv2 hq0 hb0 hq1
      go_enter Try.func30, Try.ntmps30
      go_wp2_with fail
      refine (C1.out _).mono ?_
      rintro e w' ⟨rfl, rfl⟩
      go_wp2_with fail
      refine (C2.out _).mono ?_
      rintro e w' ⟨rfl, rfl⟩
      go_wp2_with fail
      refine (C3.out _).mono ?_
      rintro e w' ⟨rfl, rfl⟩
      go_wp2_with fail
      go_ret
      exact ⟨rfl, rfl⟩
  · have hv2 := HV.out
    rw [if_pos ht] at hv2
    have hq0 := HQL.out
    have hb0 := HTB2.out
    have hm0 := HMT.out
    have e1 : IntKind.i64.wrap (q : Int) = v := by rw [hv2, IntKind.wrap_i64]; omega
    clear hv2 hq0 hb0 hm0
    go_enter Try.func30, Try.ntmps30
    go_wp2_with fail
    refine (C1.out _).mono ?_
    rintro e w' ⟨rfl, rfl⟩
    go_wp2_with fail
    refine (C2.out _).mono ?_
    rintro e w' ⟨rfl, rfl⟩
    go_wp2_with fail
    refine (C3.out _).mono ?_
    rintro e w' ⟨rfl, rfl⟩
    go_wp2_with fail
    go_ret
    exact ⟨rfl, rfl⟩
end Go.Proofs.Ytdcmofdmjpggjaa
