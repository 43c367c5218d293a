/-
  NumsSplits: Split of the program and of the reference give the same parts. No condition.
  The frame (but for the walk and the lemmas ahead of it) was written by the kit's program proof-skeleton.mjs.
-/
import Derived.Test.YtdcmofdmjpggjaaRefShare
import Derived.Test.YtdcmofdmjpggjaaSame
import Derived.Test.YtdcmofdmjpggjaaRows
import Derived.WalkKit
import Derived.ProofKit
import Derived.OpenShut
import Derived.ShutString
import Derived.ChangeOld
import Derived.Below
namespace Go.Proofs.Ytdcmofdmjpggjaa.numsSplits
open Go.ChangeShapes Go.WideShapes Go.ChangeAt Go.RowKit
open Go.ChangeMaps (open_string shut_string)
set_option linter.unusedVariables false      -- a walk need not use every 'w<i>' (that an integer argument fits its kind)

theorem own : ownKnob Try.prog.godebug = none := by kernel_rfl

set_option maxHeartbeats 1000000 in
theorem walk (a0 : Int) (a1 : Int) (w0 : (Lit.int .i64 a0).wf = true) (w1 : (Lit.int .i64 a1).wf = true) (w : World) :
    Calls Try.prog 6 #[.int .i64 a0, .int .i64 a1] w fun e w' => e = .returned (.bool true) ∧ Below w.heap.size w w' := by
  obtain ⟨t1, t2⟩ := bounds_i64 w0
  clear w0 w1
  by_cases h : 200 < a1 ∧ a1 ≤ 65536
  · obtain ⟨h1, h2⟩ := h
    have d1 : decide (200 < a1) = true := decide_eq_true h1
    clear t1 t2
    go_enter Try.func6, Try.ntmps6
    go_wp2_with fail
    go_ret
    exact ⟨rfl, Below.refl _ _⟩
  · have h200 : a1 ≤ 200 ∨ 65536 < a1 := by omega
    obtain ⟨N, hN⟩ : ∃ N, ((a1 < 1 ∨ 65536 < a1) ∧ N = []) ∨ (1 ≤ a1 ∧ a1 ≤ 65536) ∧ N = shareL a0 (List.replicate a1.toNat 1) := by
      by_cases h3 : a1 < 1 ∨ 65536 < a1
      · exact ⟨_, .inl ⟨h3, rfl⟩⟩
      · exact ⟨_, .inr ⟨⟨by omega, by omega⟩, rfl⟩⟩
    have hNl : N.length ≤ 100000 := by
      rcases hN with ⟨_, h⟩ | ⟨_, h⟩
      · rw [h]; simp
      · rw [h, shareL]
        split
        · simp
        · simp; omega
    have C1 : Hid (∀ w : World, Calls Try.prog 17 #[.int .i64 a0, .int .i64 a1] w (Gives N w)) := fun w => split_calls a0 a1 w t1 t2 N hN
    have C2 : Hid (∀ w : World, Calls Try.prog 18 #[.int .i64 a0, .int .i64 a1] w (Gives N w)) := fun w => refSplit_calls a0 a1 w t1 t2 N hN h200
    clear t1 t2 hN
    rcases h200 with h3 | h3
    · have d1 : decide (200 < a1) = false := decide_eq_false (by omega)
      clear h
      go_enter Try.func6, Try.ntmps6
      go_wp2_with fail
      refine (C1.out _).mono ?_
      rintro e w2 ⟨A2, c2, rfl, hI2, hb2⟩
      go_wp2_with fail
      refine (C2.out _).mono ?_
      rintro e w3 ⟨A3, c3, rfl, hI3, hb3⟩
      have hI2b := hI2.on hb3
      go_wp2_with fail
      refine (same_below A2 A3 c2 c3 N N _ hI2b hI3 hNl true (by unfold Hid; simp)).mono ?_
      rintro e w4 ⟨rfl, hb4⟩
      go_wp2_with fail
      go_ret
      exact ⟨rfl, Below.then_ (Below.then_ hb2 hb3) hb4⟩
    · have d1 : decide (200 < a1) = true := decide_eq_true (by omega)
      have d2 : decide (a1 ≤ 65536) = false := decide_eq_false (by omega)
      clear h
      go_enter Try.func6, Try.ntmps6
      go_wp2_with fail
      refine (C1.out _).mono ?_
      rintro e w2 ⟨A2, c2, rfl, hI2, hb2⟩
      go_wp2_with fail
      refine (C2.out _).mono ?_
      rintro e w3 ⟨A3, c3, rfl, hI3, hb3⟩
      have hI2b := hI2.on hb3
      go_wp2_with fail
      refine (same_below A2 A3 c2 c3 N N _ hI2b hI3 hNl true (by unfold Hid; simp)).mono ?_
      rintro e w4 ⟨rfl, hb4⟩
      go_wp2_with fail
      go_ret
      exact ⟨rfl, Below.then_ (Below.then_ hb2 hb3) hb4⟩

set_option maxRecDepth 100000 in
theorem lifted (os : Os) (started : os.Started) (H : Type) (enc : TypeId × Value → H) :
    ReturnsInHanded {} Try.checked os 6 .any (Rows.numsSplitsSpec.pre6 enc Try.prog Try.f6 Rows.numsSplitsRow.domain false) (Rows.numsSplitsSpec.post enc Try.prog Try.f6 false true false false) := by
  refine returnsInHanded_of_change (C := Try.checked) own started (by kernel_rfl) Try.func6
    (ChangeSpec.witness6 (enc := enc) (C := Try.checked) false ⟨#[], #[.int .i64 0, .int .i64 0], []⟩ 8 (by kernel_rfl) (by kernel_rfl) (by kernel_rfl) (by kernel_rfl)) ?_
  intro W base args ds gs before hval0 hW hcnd _
  have hval : ∀ (j : Nat) t v, Try.f6.params[j]? = some t → args[j]? = some v → Value.okWide Try.prog W .any base t v := hval0
  have hW' := hW
  obtain ⟨p, q, hA0, hV, rfl, hfz, hnd⟩ := hW
  have hA : DataW.TrodAll enc Try.prog W 0 (fun _ => true) true Try.f6.params.toList args.toList ds p := hA0
  rw [Try.params6] at hA hval
  obtain ⟨v0, vs0, d0, ds0, p0, q0, hargs, rfl, rfl, h0, r0⟩ := trodAll_cons hA
  obtain ⟨v1, vs1, d1, ds1, p1, q1, rfl, rfl, rfl, h1, r1⟩ := trodAll_cons r0
  obtain ⟨rfl, rfl, rfl⟩ := trodAll_nil r1
  obtain rfl : args = #[v0, v1] := by cases args; simp_all
  obtain ⟨rfl, rfl⟩ := trodVars_none hV
  obtain ⟨a0, rfl, rfl, rfl, w0⟩ := open_int Try.underlying3 (hval 0 3 v0 rfl rfl) h0
  obtain ⟨a1, rfl, rfl, rfl, w1⟩ := open_int Try.underlying3 (hval 1 3 v1 rfl rfl) h1
  clear hA0 hval0
  simp only [List.append_nil] at hW'
  refine (walk a0 a1 w0 w1 W).mono fun e W' ⟨he, hg⟩ => ?_
  subst he
  exact ⟨_, rfl, _, _, _, [], _, [], hW', (trodAll_cons_mk (shut_bool Try.underlying4 _) trodAll_mk0), (trodAll_cons_mk (shut_int Try.underlying3 w0) (trodAll_cons_mk (shut_int Try.underlying3 w1) trodAll_mk0)), rfl, hg.frame _, fun h => by cases h⟩

theorem over : Rows.numsSplitsRow.holds Try.pinned (OpenSpec.ofChange Rows.numsSplitsSpec) :=
  OpenClaim.holds_of_wide 6 Try.f6 rfl rfl rfl rfl rfl rfl rfl ⟨rfl, rfl, rfl, rfl, rfl⟩ rfl rfl rfl rfl rfl (by kernel_rfl) Try.func6 (by kernel_rfl)
    (of_decide_eq_true (by kernel_rfl)) (by unfold Func.isWrapper; first | (rw [if_pos (by decide +kernel)]; kernel_rfl) | (rw [if_neg (by decide +kernel)]; exact ⟨rfl, rfl⟩))
    (fun os started H enc _ => lifted os started H enc)

theorem proved : Rows.NumsSplitsSaid :=
  over
#print axioms proved
end Go.Proofs.Ytdcmofdmjpggjaa.numsSplits
