/-
  NeutralLevels: the implicit levels agree with the reference's and are at most two above the given level (of more than 200 classes, or a level above 2 to the 40, the law says nothing). No condition.
  The frame (but for the walk and the lemmas ahead of it) was written by the kit's program proof-skeleton.mjs.
-/
import Derived.Test.YthlmbmopdjnjaaaAlive
import Derived.Test.YthlmbmopdjnjaaaRows
import Derived.WalkKit
import Derived.ProofKit
import Derived.OpenShut
import Derived.ShutString
import Derived.ChangeOld
import Derived.Below
namespace Go.Proofs.Ythlmbmopdjnjaaa.neutralLevels
open Go.ChangeShapes Go.WideShapes Go.ChangeAt Go.RowKit
open Go.ChangeMaps (open_string shut_string)
set_option linter.unusedVariables false

theorem own : ownKnob Try.prog.godebug = none := by kernel_rfl
theorem laidOut : laidOutB Try.prog = true := by kernel_rfl

/-- WHAT THE WALK IS TOLD OF A SLICE OF INTEGERS THAT CAME IN: it is nil; or it leads to a row of 'cap' cells, the numbers 'zs' (the first 'len' are its elements, the rest its spare room), each fitting its kind. -/
def IsRow (k : IntKind) (w : World) (a : Option Addr) (len cap : Nat) (zs : List Int) : Prop :=
  (a = none ∧ len = 0 ∧ cap = 0 ∧ zs = []) ∨
  ∃ x, a = some x ∧ len ≤ cap ∧ cap ≤ maxLen ∧ zs.length = cap ∧ (∀ i, i < zs.length → w.cell? (x.add i) = some (.int k (zs.getD i 0))) ∧ ∀ n ∈ zs, (Lit.int k n).wf = true

theorem block_lt {w : World} {x : Addr} {v : Value} (h : w.cell? x = some v) : x.block < w.heap.size := World.block_lt_of_cell? w x h
/-- what came in, as a list -/
theorem view {w : World} {a : Option Addr} {len cap : Nat} {zs : List Int} (h : IsRow .i64 w a len cap zs) :
    ∃ l : List Int, len = l.length ∧ Ints w w.heap.size a l ∧ ∀ x ∈ l, -9223372036854775808 ≤ x ∧ x ≤ 9223372036854775807 := by
  rcases h with ⟨rfl, rfl, rfl, rfl⟩ | ⟨x, rfl, hl, hm, hz, hcell, hwz⟩
  · exact ⟨[], rfl, .inl rfl, by simp⟩
  · refine ⟨zs.take len, by rw [List.length_take]; omega, ?_, fun y hy => bounds_i64 (hwz y (List.mem_of_mem_take hy))⟩
    rcases Nat.eq_zero_or_pos len with h0 | h0
    · subst h0
      exact .inl (by simp)
    · obtain ⟨b, off, spot⟩ := x
      have hc := hcell 0 (by omega)
      have hspot : spot = none := by simpa [Addr.add] using World.cell?_spot hc
      subst hspot
      refine .inr ⟨b, off, rfl, by simpa [Addr.add] using block_lt hc, fun k y hy => ?_⟩
      rw [List.getElem?_take] at hy
      split at hy
      · have hk := hcell k (by omega)
        rw [List.getD_eq_getElem?_getD, hy] at hk
        simpa [Addr.add_lit] using hk
      · cases hy

theorem impl_bd (lv x : Int) : lv ≤ implOf lv x ∧ implOf lv x ≤ lv + 2 := by
  unfold implOf
  split
  · split
    · omega
    · split <;> omega
  · split <;> omega

theorem walk (a0 : Option Addr) (len0 cap0 : Nat) (z0 : List Int) (a1 : Int) (w : World) (w0 : IsRow .i64 w a0 len0 cap0 z0) (w1 : (Lit.int .i64 a1).wf = true) :
    Calls Try.prog 5 #[.slice a0 len0 cap0, .int .i64 a1] w fun e w' => e = .returned (.bool true) ∧ Below w.heap.size w w' := by
  obtain ⟨l, rfl, hI, _⟩ := view w0
  obtain ⟨hlo, hhi⟩ := bounds_i64 w1
  by_cases hn : 200 < l.length
  · have hn' : (200 : Int) < (l.length : Int) := by omega
    go_enter Try.func5, Try.ntmps5
    go_wp2_with fail
    refine (alive_calls _).mono ?_
    rintro e w1 ⟨rfl, hb⟩
    go_wp2_with fail
    go_ret
    exact ⟨rfl, hb⟩
  · by_cases hv : 1099511627776 < a1
    · have hn' : ¬ (200 : Int) < (l.length : Int) := by omega
      go_enter Try.func5, Try.ntmps5
      go_wp2_with fail
      refine (alive_calls _).mono ?_
      rintro e w1 ⟨rfl, hb⟩
      go_wp2_with fail
      go_ret
      exact ⟨rfl, hb⟩
    · have hn' : ¬ (200 : Int) < (l.length : Int) := by omega
      have hv' : a1 ≤ 1099511627776 := by omega
      have hl : l.length ≤ 200 := by omega
      obtain ⟨V, hV⟩ : ∃ V, V = implL l a1 := ⟨_, rfl⟩
      have HV := Lib.hid hV
      have hVl : V.length = l.length := by rw [hV, implL_length]
      have HVl := Lib.hid hVl
      have hV2 : V.length ≤ 200 := by omega
      clear hV hn hv
      go_enter Try.func5, Try.ntmps5
      go_wp2_with fail
      refine (implicit_calls a0 cap0 l a1 _ hI hl hlo hv').mono ?_
      rintro e w1 ⟨v1, rfl, hO1, hb1⟩
      rw [← HV.out, ← HVl.out] at hO1
      obtain ⟨A1, c1, hv1, hI1⟩ := own_ints hO1
      rw [hv1]
      clear hO1 hv1 hVl
      go_wp2_with fail
      go_loop [6] (fun a => ∃ k : Nat, a = .int .i64 k ∧ k ≤ V.length) (fun a => V.length - (intOf a).toNat)
      case atStart => exact ⟨0, rfl, Nat.zero_le _⟩
      case round =>
        obtain ⟨k, rfl, hk⟩ := hrel
        by_cases hlt : k < V.length
        · obtain ⟨b, off, x, rfl, hlb, hx, hc⟩ := hI1.at_ hlt
          have hbd : a1 ≤ x ∧ x ≤ a1 + 2 := by
            rw [HV.out, implL, List.getElem?_map] at hx
            cases hy : l[k]? with
            | none => rw [hy] at hx; cases hx
            | some y =>
              rw [hy] at hx
              injection hx with hx
              rw [← hx]
              exact impl_bd a1 y
          obtain ⟨hb1', hb2'⟩ := hbd
          clear hx
          go_wp2_with fail
          go_round
          case rel => exact ⟨k + 1, by go_num, by omega⟩
          case measure => simp [intOf]; omega
        · go_wp2_with fail
          refine (refImplicit_calls a0 cap0 l a1 _ (hI.on hb1) hl hlo hv').mono ?_
          rintro e w2 ⟨v2, rfl, hO2, hb2⟩
          rw [← HV.out, ← HVl.out] at hO2
          obtain ⟨A2, c2, hv2, hI2⟩ := own_ints hO2
          rw [hv2]
          clear hO2 hv2
          go_wp2_with fail
          refine (same_below A1 A2 c1 c2 V V _ (hI1.on hb2) hI2 (by omega) true (by unfold Hid; simp)).mono ?_
          rintro e w3 ⟨rfl, hb3⟩
          go_wp2_with fail
          refine (alive_calls _).mono ?_
          rintro e w4 ⟨rfl, hb4⟩
          go_wp2_with fail
          go_ret
          exact ⟨rfl, Below.then_ (Below.then_ (Below.then_ hb1 hb2) hb3) hb4⟩

set_option maxRecDepth 100000 in
theorem lifted (os : Os) (started : os.Started) (H : Type) (enc : TypeId × Value → H) :
    ReturnsInHanded {} Try.checked os 5 .any (Rows.neutralLevelsSpec.pre6 enc Try.prog Try.f5 Rows.neutralLevelsRow.domain false) (Rows.neutralLevelsSpec.post enc Try.prog Try.f5 false true false false) := by
  refine returnsInHanded_of_change (C := Try.checked) own started (by kernel_rfl) Try.func5
    (ChangeSpec.witness6 (enc := enc) (C := Try.checked) false ⟨#[], #[.slice none 0 0, .int .i64 0], []⟩ 8 (by kernel_rfl) (by kernel_rfl) (by kernel_rfl) (by kernel_rfl)) ?_
  intro W base args ds gs before hval0 hW hcnd _
  have hval : ∀ (j : Nat) t v, Try.f5.params[j]? = some t → args[j]? = some v → Value.okWide Try.prog W .any base t v := hval0
  have hW' := hW
  obtain ⟨p, q, hA0, hV, rfl, hfz, hnd⟩ := hW
  have hA : DataW.TrodAll enc Try.prog W 0 (fun _ => true) true Try.f5.params.toList args.toList ds p := hA0
  rw [Try.params5] at hA hval
  obtain ⟨v0, vs0, d0, ds0, p0, q0, hargs, rfl, rfl, h0, r0⟩ := trodAll_cons hA
  obtain ⟨v1, vs1, d1, ds1, p1, q1, rfl, rfl, rfl, h1, r1⟩ := trodAll_cons r0
  obtain ⟨rfl, rfl, rfl⟩ := trodAll_nil r1
  obtain rfl : args = #[v0, v1] := by cases args; simp_all
  obtain ⟨rfl, rfl⟩ := trodVars_none hV
  obtain ⟨a0, len0, cap0, rfl⟩ := okWide_slice Try.underlying22 (hval 0 22 v0 rfl rfl)
  have k0 := h0
  have lt0 : ∀ x ∈ p0, x.block < W.heap.size := by obtain ⟨m, hm⟩ := k0; exact DataW.trod_lt m _ _ _ hm
  obtain ⟨z0, w0⟩ : ∃ zs, IsRow .i64 W a0 len0 cap0 zs := by
    obtain ⟨fuel, hf⟩ := h0
    rcases open_ints Try.underlying22 Try.underlying3 (by kernel_rfl) hf with ⟨hcs, _⟩ | ⟨x, l, c, zs, hcs, _, hl, hm, hz, _, hcell, hwz⟩
    · simp [Value.cells] at hcs
      obtain ⟨rfl, rfl, rfl⟩ := hcs
      exact ⟨[], .inl ⟨rfl, rfl, rfl, rfl⟩⟩
    · simp [Value.cells] at hcs
      obtain ⟨rfl, rfl, rfl⟩ := hcs
      exact ⟨zs, .inr ⟨_, rfl, hl, hm, by simpa using hz, hcell, hwz⟩⟩
  obtain ⟨a1, rfl, rfl, rfl, w1⟩ := open_int Try.underlying3 (hval 1 3 v1 rfl rfl) h1
  clear hA0 hval0
  refine (walk a0 len0 cap0 z0 a1 W w0 w1).mono fun e W' ⟨he, bel⟩ => ?_
  subst he
  exact ⟨_, rfl, _, _, _, [], _, [], hW', trodAll_mk1 (shut_bool Try.underlying4 _), (trodAll_cons_mk (Below.trod laidOut (by kernel_rfl) (of_decide_eq_true (by kernel_rfl)) k0 bel lt0) (trodAll_cons_mk (shut_int Try.underlying3 w1) trodAll_mk0)), rfl, bel.frame _, fun h => by cases h⟩

theorem over : Rows.neutralLevelsRow.holds Try.pinned (OpenSpec.ofChange Rows.neutralLevelsSpec) :=
  OpenClaim.holds_of_wide 5 Try.f5 rfl rfl rfl rfl rfl rfl rfl ⟨rfl, rfl, rfl, rfl, rfl⟩ rfl rfl rfl rfl rfl (by kernel_rfl) Try.func5 (by kernel_rfl)
    (of_decide_eq_true (by kernel_rfl)) (by unfold Func.isWrapper; first | (rw [if_pos (by decide +kernel)]; kernel_rfl) | (rw [if_neg (by decide +kernel)]; exact ⟨rfl, rfl⟩))
    (fun os started H enc _ => lifted os started H enc)

theorem proved : Rows.NeutralLevelsSaid := over
#print axioms proved
end Go.Proofs.Ythlmbmopdjnjaaa.neutralLevels
