/-
  NumsFloors: Floor of the program and Floor of the reference agree at every n and by; put together, quotient and rest are the number again. No condition.
  The frame (from 'own' on, but for 'walk') was written by the kit's program proof-skeleton.mjs; the walk is typed by hand.
-/
import Derived.Test.YtdcmofdmjpggjaaRows
import Derived.WalkKit
import Derived.ProofKit
import Derived.OpenShut
import Derived.ShutString
import Derived.Deep.QuietTactic
import Derived.BigQuiet
import Derived.Lib.Hide
namespace Go.Proofs.Ytdcmofdmjpggjaa.numsFloors
open Go.ChangeShapes Go.WideShapes Go.ChangeAt Go.RowKit
open Go.ChangeMaps (open_string shut_string)
set_option linter.unusedVariables false      -- a walk need not use every 'w<i>' (that an integer argument fits its kind)

theorem own : ownKnob Try.prog.godebug = none := by kernel_rfl

def qF (n by_ : Int) : Int := if n.tmod by_ < 0 then n.tdiv by_ - 1 else n.tdiv by_
def rF (n by_ : Int) : Int := if n.tmod by_ < 0 then n.tmod by_ + by_ else n.tmod by_

theorem facts (n b : Int) (h : 1 ≤ b) (h1 : -9223372036854775808 ≤ n) (h2 : n ≤ 9223372036854775807) :
    b * n.tdiv b + n.tmod b = n ∧ -b < n.tmod b ∧ n.tmod b < b ∧ -9223372036854775808 ≤ n.tdiv b ∧ n.tdiv b ≤ 9223372036854775807 ∧ (n.tmod b < 0 → -9223372036854775808 ≤ n.tdiv b - 1) := by
  have e := Int.mul_tdiv_add_tmod n b
  have r1 : n.tmod b < b := Int.tmod_lt_of_pos n (by omega)
  have r2 : -b < n.tmod b := by
    have := Int.tmod_lt_of_pos (-n) (b := b) (by omega)
    rw [Int.neg_tmod] at this
    omega
  refine ⟨e, r2, r1, ?_⟩
  rcases Int.lt_or_le (n.tdiv b) 0 with hq | hq
  · have hb : b * n.tdiv b ≤ 1 * n.tdiv b := Int.mul_le_mul_of_nonpos_right h (by omega)
    refine ⟨?_, by omega, ?_⟩
    · by_cases hr : n.tmod b ≤ 0
      · omega
      · have : 0 ≤ n := by
          rcases Int.lt_or_le n 0 with hn | hn
          · have := Int.tmod_lt_of_pos (-n) (b := b) (by omega)
            have h3 : (-n).tmod b = -(n.tmod b) := Int.neg_tmod n b
            have h4 : 0 ≤ (-n).tmod b := Int.tmod_nonneg b (by omega)
            omega
          · exact hn
        have h5 : 0 ≤ n.tdiv b := Int.tdiv_nonneg this (by omega)
        omega
    · intro hr
      omega
  · have hb : 1 * n.tdiv b ≤ b * n.tdiv b := Int.mul_le_mul_of_nonneg_right h hq
    refine ⟨by omega, ?_, by omega⟩
    rcases Int.lt_or_le n 0 with hn | hn
    · have h4 : 0 ≤ (-n).tdiv b := Int.tdiv_nonneg (by omega) (by omega)
      rw [Int.neg_tdiv] at h4
      omega
    · have h4 : 0 ≤ n.tmod b := Int.tmod_nonneg b hn
      omega

theorem back (n b : Int) (h1 : -9223372036854775808 ≤ n) (h2 : n ≤ 9223372036854775807) :
    (wrap64 (wrap64 (b * qF n b) + rF n b) == n) = true := by
  have e := Int.mul_tdiv_add_tmod n b
  have e2 : b * qF n b + rF n b = n := by
    unfold qF rF
    split
    · rw [Int.mul_sub]; omega
    · exact e
  generalize qF n b = q at *
  generalize rF n b = r at *
  generalize b * q = m at *
  unfold wrap64
  simp only [beq_iff_eq]
  omega

theorem ret_int2 {k k' : IntKind} {a a' b b' : Int} (h : a = a') (h' : b = b') : Ending.returned (.tuple #[.int k a, .int k' b]) = Ending.returned (.tuple #[.int k a', .int k' b']) := by rw [h, h']

theorem floor12 (n b : Int) (w : World) (h : 1 ≤ b) (h1 : -9223372036854775808 ≤ n) (h2 : n ≤ 9223372036854775807) (h3 : b ≤ 9223372036854775807) :
    Calls Try.prog 12 #[.int .i64 n, .int .i64 b] w fun e w' => e = .returned (.tuple #[.int .i64 (qF n b), .int .i64 (rF n b)]) ∧ ∃ k, w' = w.drewN k := by
  obtain ⟨_, f1, f2, f3, f4, f5⟩ := facts n b h h1 h2
  by_cases hr : n.tmod b < 0
  · have f6 := f5 hr
    clear f5
    go_enter Try.func12, Try.ntmps12
    go_wp2
    go_quiet (fail)
    go_wp2
    go_ret2
    exact ⟨ret_int2 (by rw [qF, if_pos (by omega)]) (by rw [rF, if_pos (by omega)]), _, rfl⟩
  · clear f5
    go_enter Try.func12, Try.ntmps12
    go_wp2
    go_quiet (fail)
    go_wp2
    go_ret2
    exact ⟨ret_int2 (by rw [qF, if_neg (by omega)]) (by rw [rF, if_neg (by omega)]), _, rfl⟩

theorem floor13 (n b : Int) (w : World) (h : 1 ≤ b) (h1 : -9223372036854775808 ≤ n) (h2 : n ≤ 9223372036854775807) (h3 : b ≤ 9223372036854775807) :
    Calls Try.prog 13 #[.int .i64 n, .int .i64 b] w fun e w' => e = .returned (.tuple #[.int .i64 (qF n b), .int .i64 (rF n b)]) ∧ ∃ k, w' = w.drewN k := by
  obtain ⟨_, f1, f2, f3, f4, f5⟩ := facts n b h h1 h2
  by_cases hr : n.tmod b < 0
  · have f6 := f5 hr
    clear f5
    go_enter Try.func13, Try.ntmps13
    go_wp2
    go_quiet (fail)
    go_wp2
    go_ret2
    exact ⟨ret_int2 (by rw [qF, if_pos (by omega)]) (by rw [rF, if_pos (by omega)]), _, rfl⟩
  · clear f5
    go_enter Try.func13, Try.ntmps13
    go_wp2
    go_quiet (fail)
    go_wp2
    go_ret2
    exact ⟨ret_int2 (by rw [qF, if_neg (by omega)]) (by rw [rF, if_neg (by omega)]), _, rfl⟩

theorem grown_drewN (w : World) (k : Nat) : Grown w (w.drewN k) := ⟨⟨rfl, rfl, fun i hi => (World.keptBut_refl w (fun _ => False)).2.2 i hi⟩, fun _ => rfl, Nat.le_refl _⟩

theorem walk (a0 : Int) (a1 : Int) (w0 : (Lit.int .i64 a0).wf = true) (w1 : (Lit.int .i64 a1).wf = true) (w : World) :
    Calls Try.prog 4 #[.int .i64 a0, .int .i64 a1] w fun e w' => e = .returned (.bool true) ∧ Grown w w' := by
  rcases Int.lt_or_le a1 1 with h | h
  · go_enter Try.func4, Try.ntmps4
    go_wp2
    go_ret
    exact ⟨rfl, Grown.refl _⟩
  · obtain ⟨b0, b0'⟩ := bounds_i64 w0
    obtain ⟨b1, b1'⟩ := bounds_i64 w1
    have hb := back a0 a1 b0 b0'
    clear w0 w1
    generalize hq : qF a0 a1 = q at hb
    generalize hr : rF a0 a1 = r at hb
    have Hq := Lib.hid hq
    have Hr := Lib.hid hr
    clear hq hr
    go_enter Try.func4, Try.ntmps4
    go_wp2_with fail
    refine (floor12 a0 a1 _ h b0 b0' b1').mono ?_
    rintro e w1 ⟨rfl, k, rfl⟩
    rw [Hq.out, Hr.out]
    go_wp2_with fail
    refine (floor13 a0 a1 _ h b0 b0' b1').mono ?_
    rintro e w1 ⟨rfl, k', rfl⟩
    rw [Hq.out, Hr.out]
    go_wp2_with fail
    go_ret
    exact ⟨rfl, grown_drewN _ _⟩

/-! ### THE ROW's STEP: WRITTEN OUT: LEAVE IT -/
set_option maxRecDepth 100000 in
theorem lifted (os : Os) (started : os.Started) (H : Type) (enc : TypeId × Value → H) :
    ReturnsInHanded {} Try.checked os 4 .any (Rows.numsFloorsSpec.pre6 enc Try.prog Try.f4 Rows.numsFloorsRow.domain false) (Rows.numsFloorsSpec.post enc Try.prog Try.f4 false true false false) := by
  refine returnsInHanded_of_change (C := Try.checked) own started (by kernel_rfl) Try.func4
    (ChangeSpec.witness6 (enc := enc) (C := Try.checked) false ⟨#[], #[.int .i64 0, .int .i64 0], []⟩ 8 (by kernel_rfl) (by kernel_rfl) (by kernel_rfl) (by kernel_rfl)) ?_
  intro W base args ds gs before hval0 hW hcnd _
  have hval : ∀ (j : Nat) t v, Try.f4.params[j]? = some t → args[j]? = some v → Value.okWide Try.prog W .any base t v := hval0
  have hW' := hW
  obtain ⟨p, q, hA0, hV, rfl, hfz, hnd⟩ := hW
  have hA : DataW.TrodAll enc Try.prog W 0 (fun _ => true) true Try.f4.params.toList args.toList ds p := hA0
  rw [Try.params4] at hA hval
  obtain ⟨v0, vs0, d0, ds0, p0, q0, hargs, rfl, rfl, h0, r0⟩ := trodAll_cons hA
  obtain ⟨v1, vs1, d1, ds1, p1, q1, rfl, rfl, rfl, h1, r1⟩ := trodAll_cons r0
  obtain ⟨rfl, rfl, rfl⟩ := trodAll_nil r1
  obtain rfl : args = #[v0, v1] := by cases args; simp_all
  obtain ⟨rfl, rfl⟩ := trodVars_none hV
  obtain ⟨a0, rfl, rfl, rfl, w0⟩ := open_int Try.underlying3 (hval 0 3 v0 rfl rfl) h0
  obtain ⟨a1, rfl, rfl, rfl, w1⟩ := open_int Try.underlying3 (hval 1 3 v1 rfl rfl) h1
  clear hA0 hval0
  simp only [List.append_nil] at hW'
  refine (walk a0 a1 w0 w1 W).mono fun e W' ⟨he, hg⟩ => ?_
  subst he
  exact ⟨_, rfl, post_of_same (pa := []) (pv := []) hW' (fun _ _ _ => (trodAll_cons_mk (shut_bool Try.underlying4 _) trodAll_mk0)) (fun sp _ => (trodAll_cons_mk (shut_int Try.underlying3 w0) (trodAll_cons_mk (shut_int Try.underlying3 w1) trodAll_mk0))) (fun _ _ => rfl) rfl
    (hg.frame _) hg.2.1 (ok_one (by kernel_rfl) rfl (okWide_bool_mk Try.underlying4 _))⟩

theorem over : Rows.numsFloorsRow.holds Try.pinned (OpenSpec.ofChange Rows.numsFloorsSpec) :=
  OpenClaim.holds_of_wide 4 Try.f4 rfl rfl rfl rfl rfl rfl rfl ⟨rfl, rfl, rfl, rfl, rfl⟩ rfl rfl rfl rfl rfl (by kernel_rfl) Try.func4 (by kernel_rfl)
    (of_decide_eq_true (by kernel_rfl)) (by unfold Func.isWrapper; first | (rw [if_pos (by decide +kernel)]; kernel_rfl) | (rw [if_neg (by decide +kernel)]; exact ⟨rfl, rfl⟩))
    (fun os started H enc _ => lifted os started H enc)

/-- ████ THE STATEMENT ████ -/
theorem proved : Rows.NumsFloorsSaid :=
  over
#print axioms proved
end Go.Proofs.Ytdcmofdmjpggjaa.numsFloors
