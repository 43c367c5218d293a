/-
  TabsPlace: the program and the reference agree where a text behind a tab begins. No condition.
  The frame follows the shells of the kit's program proof-skeleton.mjs, for parameters that it does not serve.
-/
import Derived.Test.YtehjeiojbdpmkaaOpen
import Derived.Test.YtehjeiojbdpmkaaRows
import Derived.WalkKit
import Derived.ProofKit
import Derived.OpenShut
import Derived.ShutString
import Derived.ChangeOld
import Derived.Below
namespace Go.Proofs.Ytehjeiojbdpmkaa.tabsPlace
open Go.ChangeShapes Go.WideShapes Go.ChangeAt Go.RowKit
open Go.ChangeMaps (open_string shut_string)
set_option linter.unusedVariables false

theorem own : ownKnob Try.prog.godebug = none := by kernel_rfl
theorem laidOut : laidOutB Try.prog = true := by kernel_rfl

theorem near_of {n : Int} (h : nearB n = true) : -1099511627776 ≤ n ∧ n ≤ 1099511627776 := of_decide_eq_true h

set_option maxHeartbeats 4000000 in
set_option maxRecDepth 100000 in
theorem walk (x0_0 x0_1 : Int) (x1_0 x1_1 x1_2 : Int) (w : World) (w_x0_0 : (Lit.int .i64 x0_0).wf = true) (w_x0_1 : (Lit.int .i64 x0_1).wf = true) (w_x1_0 : (Lit.int .i64 x1_0).wf = true) (w_x1_1 : (Lit.int .i64 x1_1).wf = true) (w_x1_2 : (Lit.int .i64 x1_2).wf = true) :
    Calls Try.prog 4 #[.agg #[.int .i64 x0_0, .int .i64 x0_1], .agg #[.int .i64 x1_0, .int .i64 x1_1, .int .i64 x1_2]] w fun e w' => e = .returned (.bool true) ∧ Below w.heap.size w w' := by
  have hbb : Below w.heap.size w ((w.alloc (.cells #[.int .i64 x0_0, .int .i64 x0_1] 29)).alloc (.cells #[.int .i64 x1_0, .int .i64 x1_1, .int .i64 x1_2] 23)) := ((Below.refl _ _).alloc (Nat.le_refl _) _).alloc (by simp) _
  have hX0 : Blk ((w.alloc (.cells #[.int .i64 x0_0, .int .i64 x0_1] 29)).alloc (.cells #[.int .i64 x1_0, .int .i64 x1_1, .int .i64 x1_2] 23)) w.heap.size 29 [.int .i64 x0_0, .int .i64 x0_1] := (Blk.new w 29 _).alloc _
  have hX1 : Blk ((w.alloc (.cells #[.int .i64 x0_0, .int .i64 x0_1] 29)).alloc (.cells #[.int .i64 x1_0, .int .i64 x1_1, .int .i64 x1_2] 23)) (w.heap.size + 1) 23 [.int .i64 x1_0, .int .i64 x1_1, .int .i64 x1_2] := by simpa using Blk.new (w.alloc (.cells #[.int .i64 x0_0, .int .i64 x0_1] 29)) 23 [.int .i64 x1_0, .int .i64 x1_1, .int .i64 x1_2]
  have e0 := hX0.cell 0
  have e1 := hX0.cell 1
  have e2 := hX1.cell 0
  have e3 := hX1.cell 1
  have e4 := hX1.cell 2
  have g0 := hX0.lt
  have g1 := hX1.lt
  clear hX0 hX1
  obtain ⟨b1, k1⟩ : ∃ b, nearB x0_0 = b := ⟨_, rfl⟩
  obtain ⟨b2, k2⟩ : ∃ b, nearB x1_0 = b := ⟨_, rfl⟩
  obtain ⟨b3, k3⟩ : ∃ b, nearB x1_1 = b := ⟨_, rfl⟩
  obtain ⟨b4, k4⟩ : ∃ b, nearB x1_2 = b := ⟨_, rfl⟩
  have H1 := Lib.hid k1
  have H2 := Lib.hid k2
  have H3 := Lib.hid k3
  have H4 := Lib.hid k4
  clear k1 k2 k3 k4
  cases b1 with
  | false =>
    go_enter Try.func4, Try.ntmps4
    go_wp2_with fail
    generalize ((w.alloc (.cells #[.int .i64 x0_0, .int .i64 x0_1] 29)).alloc (.cells #[.int .i64 x1_0, .int .i64 x1_1, .int .i64 x1_2] 23)) = wb at *
    go_wp2_with (go_at_call 8; refine (near_calls _ _ (by first | exact H1 | exact H2 | exact H3 | exact H4) _).mono ?_; rintro e w1 ⟨rfl, rfl⟩)
    refine (alive_calls _).mono ?_
    rintro e w1 ⟨rfl, hb1⟩
    go_wp2_with fail
    go_ret
    exact ⟨rfl, Below.then_ hbb hb1⟩
  | true =>
    cases b2 with
    | false =>
      go_enter Try.func4, Try.ntmps4
      go_wp2_with fail
      generalize ((w.alloc (.cells #[.int .i64 x0_0, .int .i64 x0_1] 29)).alloc (.cells #[.int .i64 x1_0, .int .i64 x1_1, .int .i64 x1_2] 23)) = wb at *
      go_wp2_with (go_at_call 8; refine (near_calls _ _ (by first | exact H1 | exact H2 | exact H3 | exact H4) _).mono ?_; rintro e w1 ⟨rfl, rfl⟩)
      refine (alive_calls _).mono ?_
      rintro e w1 ⟨rfl, hb1⟩
      go_wp2_with fail
      go_ret
      exact ⟨rfl, Below.then_ hbb hb1⟩
    | true =>
      cases b3 with
      | false =>
        go_enter Try.func4, Try.ntmps4
        go_wp2_with fail
        generalize ((w.alloc (.cells #[.int .i64 x0_0, .int .i64 x0_1] 29)).alloc (.cells #[.int .i64 x1_0, .int .i64 x1_1, .int .i64 x1_2] 23)) = wb at *
        go_wp2_with (go_at_call 8; refine (near_calls _ _ (by first | exact H1 | exact H2 | exact H3 | exact H4) _).mono ?_; rintro e w1 ⟨rfl, rfl⟩)
        refine (alive_calls _).mono ?_
        rintro e w1 ⟨rfl, hb1⟩
        go_wp2_with fail
        go_ret
        exact ⟨rfl, Below.then_ hbb hb1⟩
      | true =>
        cases b4 with
        | false =>
          go_enter Try.func4, Try.ntmps4
          go_wp2_with fail
          generalize ((w.alloc (.cells #[.int .i64 x0_0, .int .i64 x0_1] 29)).alloc (.cells #[.int .i64 x1_0, .int .i64 x1_1, .int .i64 x1_2] 23)) = wb at *
          go_wp2_with (go_at_call 8; refine (near_calls _ _ (by first | exact H1 | exact H2 | exact H3 | exact H4) _).mono ?_; rintro e w1 ⟨rfl, rfl⟩)
          refine (alive_calls _).mono ?_
          rintro e w1 ⟨rfl, hb1⟩
          go_wp2_with fail
          go_ret
          exact ⟨rfl, Below.then_ hbb hb1⟩
        | true =>
          obtain ⟨n1, m1⟩ := near_of H1.out
          obtain ⟨n2, m2⟩ := near_of H2.out
          obtain ⟨n3, m3⟩ := near_of H3.out
          obtain ⟨n4, m4⟩ := near_of H4.out
          obtain ⟨v, hv⟩ : ∃ v, v = placeOf x0_0 x0_1 x1_0 x1_1 x1_2 := ⟨_, rfl⟩
          have HV := Lib.hid hv
          clear hv
          have hvv : (v == v) = true := by simp
          go_enter Try.func4, Try.ntmps4
          go_wp2_with fail
          generalize ((w.alloc (.cells #[.int .i64 x0_0, .int .i64 x0_1] 29)).alloc (.cells #[.int .i64 x1_0, .int .i64 x1_1, .int .i64 x1_2] 23)) = wb at *
          go_wp2_with (go_at_call 8; refine (near_calls _ _ (by first | exact H1 | exact H2 | exact H3 | exact H4) _).mono ?_; rintro e w1 ⟨rfl, rfl⟩)
          go_region_held3 (fun w' => w'.cell? ⟨w.heap.size, 0, none⟩ = some (.int .i64 x0_0) ∧ w'.cell? ⟨w.heap.size, 1, none⟩ = some (.int .i64 x0_1) ∧ w'.cell? ⟨w.heap.size + 1, 0, none⟩ = some (.int .i64 x1_0) ∧ w'.cell? ⟨w.heap.size + 1, 1, none⟩ = some (.int .i64 x1_1) ∧ w'.cell? ⟨w.heap.size + 1, 2, none⟩ = some (.int .i64 x1_2)) (go_keep) (first | (go_at_call 12; refine (place_calls x0_0 x0_1 x1_0 x1_1 x1_2 _ (by omega) (by omega) (by omega) (by omega) (by omega) (by omega) v HV).mono ?_; rintro e w1 ⟨rfl, hz1⟩; have hb1 : Below wb.heap.size wb w1 := ⟨hz1.os, hz1.tape, hz1.output, hz1.size, hz1.block⟩; clear hz1; have ga1 := Nat.lt_of_lt_of_le g0 hb1.size; have gb1 := Nat.lt_of_lt_of_le g1 hb1.size; have f0_1 := (hb1.cell (p := ⟨w.heap.size, 0, none⟩) g0).trans e0; have f1_1 := (hb1.cell (p := ⟨w.heap.size, 1, none⟩) g0).trans e1; have f2_1 := (hb1.cell (p := ⟨w.heap.size + 1, 0, none⟩) g1).trans e2; have f3_1 := (hb1.cell (p := ⟨w.heap.size + 1, 1, none⟩) g1).trans e3; have f4_1 := (hb1.cell (p := ⟨w.heap.size + 1, 2, none⟩) g1).trans e4) | (go_at_call 13; refine (refPlace_calls x0_0 x0_1 x1_0 x1_1 x1_2 _ (by omega) (by omega) (by omega) (by omega) (by omega) (by omega) v HV).mono ?_; rintro e w2 ⟨rfl, hz2⟩; have hb2 : Below w1.heap.size w1 w2 := ⟨hz2.os, hz2.tape, hz2.output, hz2.size, hz2.block⟩; clear hz2; have ga2 := Nat.lt_of_lt_of_le ga1 hb2.size; have gb2 := Nat.lt_of_lt_of_le gb1 hb2.size; have f0_2 := (hb2.cell (p := ⟨w.heap.size, 0, none⟩) ga1).trans f0_1; have f1_2 := (hb2.cell (p := ⟨w.heap.size, 1, none⟩) ga1).trans f1_1; have f2_2 := (hb2.cell (p := ⟨w.heap.size + 1, 0, none⟩) gb1).trans f2_1; have f3_2 := (hb2.cell (p := ⟨w.heap.size + 1, 1, none⟩) gb1).trans f3_1; have f4_2 := (hb2.cell (p := ⟨w.heap.size + 1, 2, none⟩) gb1).trans f4_1) | (go_at_call 9; refine (alive_calls _).mono ?_; rintro e w3 ⟨rfl, hz3⟩; have hb3 : Below w2.heap.size w2 w3 := ⟨hz3.os, hz3.tape, hz3.output, hz3.size, hz3.block⟩; clear hz3; have ga3 := Nat.lt_of_lt_of_le ga2 hb3.size; have gb3 := Nat.lt_of_lt_of_le gb2 hb3.size; have f0_3 := (hb3.cell (p := ⟨w.heap.size, 0, none⟩) ga2).trans f0_2; have f1_3 := (hb3.cell (p := ⟨w.heap.size, 1, none⟩) ga2).trans f1_2; have f2_3 := (hb3.cell (p := ⟨w.heap.size + 1, 0, none⟩) gb2).trans f2_2; have f3_3 := (hb3.cell (p := ⟨w.heap.size + 1, 1, none⟩) gb2).trans f3_2; have f4_3 := (hb3.cell (p := ⟨w.heap.size + 1, 2, none⟩) gb2).trans f4_2))
          all_goals
            go_wp2_with fail
            go_ret
            exact ⟨rfl, Below.then_ (Below.then_ (Below.then_ hbb hb1) hb2) hb3⟩

set_option maxRecDepth 100000 in
theorem lifted (os : Os) (started : os.Started) (H : Type) (enc : TypeId × Value → H) :
    ReturnsInHanded {} Try.checked os 4 .any (Rows.tabsPlaceSpec.pre6 enc Try.prog Try.f4 Rows.tabsPlaceRow.domain false) (Rows.tabsPlaceSpec.post enc Try.prog Try.f4 false true false false) := by
  refine returnsInHanded_of_change (C := Try.checked) own started (by kernel_rfl) Try.func4
    (ChangeSpec.witness6 (enc := enc) (C := Try.checked) false ⟨#[], #[.agg #[.int .i64 0, .int .i64 0], .agg #[.int .i64 0, .int .i64 0, .int .i64 0]], []⟩ 8 (by kernel_rfl) (by kernel_rfl) (by kernel_rfl) (by kernel_rfl)) ?_
  intro W base args ds gs before hval0 hW hcnd _
  have hval : ∀ (j : Nat) t v, Try.f4.params[j]? = some t → args[j]? = some v → Value.okWide Try.prog W .any base t v := hval0
  have hW' := hW
  obtain ⟨p, q, hA0, hV, rfl, hfz, hnd⟩ := hW
  have hA : DataW.TrodAll enc Try.prog W 0 (fun _ => true) true Try.f4.params.toList args.toList ds p := hA0
  rw [Try.params4] at hA hval
  obtain ⟨v0, vs0, d0, ds0, p0, q0, hargs, rfl, rfl, h0, r0⟩ := trodAll_cons hA
  obtain ⟨v1, vs1, d1, ds1, p1, q1, rfl, rfl, rfl, h1, r1⟩ := trodAll_cons r0
  obtain ⟨rfl, rfl, rfl⟩ := trodAll_nil r1
  obtain rfl : args = #[v0, v1] := by cases args; simp_all
  obtain ⟨rfl, rfl⟩ := trodVars_none hV
  have k0 := h0
  have lt0 : ∀ x ∈ p0, x.block < W.heap.size := by obtain ⟨m, hm⟩ := k0; exact DataW.trod_lt m _ _ _ hm
  obtain ⟨x0_0, x0_1, rfl, w_x0_0, w_x0_1⟩ := open_tab_ Try.underlying29 Try.underlying3 Try.underlying3 (by kernel_rfl) (by kernel_rfl) (hval 0 29 v0 rfl rfl) h0
  have k1 := h1
  have lt1 : ∀ x ∈ p1, x.block < W.heap.size := by obtain ⟨m, hm⟩ := k1; exact DataW.trod_lt m _ _ _ hm
  obtain ⟨x1_0, x1_1, x1_2, rfl, w_x1_0, w_x1_1, w_x1_2⟩ := open_arr3 Try.underlying23 Try.underlying3 (by kernel_rfl) (by kernel_rfl) (hval 1 23 v1 rfl rfl) h1
  clear hA0 hval0
  refine (walk x0_0 x0_1 x1_0 x1_1 x1_2 W w_x0_0 w_x0_1 w_x1_0 w_x1_1 w_x1_2).mono fun e W' ⟨he, bel⟩ => ?_
  subst he
  exact ⟨_, rfl, _, _, _, [], _, [], hW', trodAll_mk1 (shut_bool Try.underlying4 _), (trodAll_cons_mk (Below.trod laidOut (by kernel_rfl) (of_decide_eq_true (by kernel_rfl)) k0 bel lt0) (trodAll_cons_mk (Below.trod laidOut (by kernel_rfl) (of_decide_eq_true (by kernel_rfl)) k1 bel lt1) trodAll_mk0)), rfl, bel.frame _, fun h => by cases h⟩

theorem over : Rows.tabsPlaceRow.holds Try.pinned (OpenSpec.ofChange Rows.tabsPlaceSpec) :=
  OpenClaim.holds_of_wide 4 Try.f4 rfl rfl rfl rfl rfl rfl rfl ⟨rfl, rfl, rfl, rfl, rfl⟩ rfl rfl rfl rfl rfl (by kernel_rfl) Try.func4 (by kernel_rfl)
    (of_decide_eq_true (by kernel_rfl)) (by unfold Func.isWrapper; first | (rw [if_pos (by decide +kernel)]; kernel_rfl) | (rw [if_neg (by decide +kernel)]; exact ⟨rfl, rfl⟩))
    (fun os started H enc _ => lifted os started H enc)

theorem proved : Rows.TabsPlaceSaid := over
#print axioms proved
end Go.Proofs.Ytehjeiojbdpmkaa.tabsPlace
