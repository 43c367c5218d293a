/-
  ReorderRuns: Runs and Turns of the program and of the reference agree at all levels (of more than 30 levels the law says nothing). No condition.
  The frame (but for the walk and the lemmas ahead of it) was written by the kit's program proof-skeleton.mjs.
-/
import Derived.Test.YtlcijmllffablaaSpans
import Derived.Test.YtlcijmllffablaaVis
import Derived.Test.YtlcijmllffablaaIs
import Derived.Test.YtlcijmllffablaaRows
import Derived.WalkKit
import Derived.ProofKit
import Derived.OpenShut
import Derived.ShutString
import Derived.ChangeOld
import Derived.Below
namespace Go.Proofs.Ytlcijmllffablaa.reorderRuns
open Go.ChangeShapes Go.WideShapes Go.ChangeAt Go.RowKit
open Go.ChangeMaps (open_string shut_string)
set_option linter.unusedVariables false

theorem own : ownKnob Try.prog.godebug = none := by kernel_rfl
theorem laidOut : laidOutB Try.prog = true := by kernel_rfl

/-- WHAT THE WALK IS TOLD OF A SLICE OF INTEGERS THAT CAME IN: it is nil; or it leads to a row of 'cap' cells, the numbers 'zs' (the first 'len' are its elements, the rest its spare room), each fitting its kind. -/
def IsRow (k : IntKind) (w : World) (a : Option Addr) (len cap : Nat) (zs : List Int) : Prop :=
  (a = none ∧ len = 0 ∧ cap = 0 ∧ zs = []) ∨
  ∃ x, a = some x ∧ len ≤ cap ∧ cap ≤ maxLen ∧ zs.length = cap ∧ (∀ i, i < zs.length → w.cell? (x.add i) = some (.int k (zs.getD i 0))) ∧ ∀ n ∈ zs, (Lit.int k n).wf = true

theorem block_lt {w : World} {x : Addr} {v : Value} (h : w.cell? x = some v) : x.block < w.heap.size := World.block_lt_of_cell? w x h
/-- what came in, as a list -/
theorem view {w : World} {a : Option Addr} {len cap : Nat} {zs : List Int} (h : IsRow .i64 w a len cap zs) :
    ∃ l : List Int, len = l.length ∧ Ints w w.heap.size a l ∧ ∀ x ∈ l, -9223372036854775808 ≤ x ∧ x ≤ 9223372036854775807 := by
  rcases h with ⟨rfl, rfl, rfl, rfl⟩ | ⟨x, rfl, hl, hm, hz, hcell, hwz⟩
  · exact ⟨[], rfl, .inl rfl, by simp⟩
  · refine ⟨zs.take len, by rw [List.length_take]; omega, ?_, fun y hy => bounds_i64 (hwz y (List.mem_of_mem_take hy))⟩
    rcases Nat.eq_zero_or_pos len with h0 | h0
    · subst h0
      exact .inl (by simp)
    · obtain ⟨b, off, spot⟩ := x
      have hc := hcell 0 (by omega)
      have hspot : spot = none := by simpa [Addr.add] using World.cell?_spot hc
      subst hspot
      refine .inr ⟨b, off, rfl, by simpa [Addr.add] using block_lt hc, fun k y hy => ?_⟩
      rw [List.getElem?_take] at hy
      split at hy
      · have hk := hcell k (by omega)
        rw [List.getD_eq_getElem?_getD, hy] at hk
        simpa [Addr.add_lit] using hk
      · cases hy

theorem bl_length {L : List Int} {n : Nat} : ∀ {V : List Nat} {T : List Run3}, Bl L n V T → T.length ≤ V.length
  | V, [], _ => Nat.zero_le _
  | V, r :: T, h => by
    obtain ⟨x, b, V', rfl, _, _, _, _, h'⟩ := h
    have := bl_length h'
    simp only [List.length_cons, List.length_append]
    omega

theorem walk (a0 : Option Addr) (len0 cap0 : Nat) (z0 : List Int) (w : World) (w0 : IsRow .i64 w a0 len0 cap0 z0) :
    Calls Try.prog 8 #[.slice a0 len0 cap0] w fun e w' => e = .returned (.bool true) ∧ Below w.heap.size w w' := by
  obtain ⟨l, rfl, hI, _⟩ := view w0
  by_cases hn : 30 < l.length
  · go_enter Try.func8, Try.ntmps8
    go_wp2_with fail
    refine (long_calls a0 cap0 l _ true (by simpa using hn)).mono ?_
    rintro e w1 ⟨rfl, rfl⟩
    go_wp2_with fail
    go_ret
    exact ⟨rfl, Below.refl _ _⟩
  · have hl : l.length ≤ 100 := by omega
    have hd : ∀ N : Int, (N == N) = true := by simp
    obtain ⟨N, hN⟩ : ∃ N : Int, N = ((rounds l).2 : Nat) := ⟨_, rfl⟩
    have HN := Lib.hid hN
    have hNN := hd N
    clear hN hd
    go_enter Try.func8, Try.ntmps8
    go_wp2_with fail
    refine (long_calls a0 cap0 l _ false (by simpa using hn)).mono ?_
    rintro e w1 ⟨rfl, rfl⟩
    go_wp2_with fail
    refine (runs_calls a0 cap0 l _ hI hl).mono ?_
    rintro e w1 ⟨v1, T, rfl, hT, hO1, hb1⟩
    have HT := Lib.hid hT
    have hTl := bl_length hT
    rw [(rounds_places l).1] at hTl
    clear hT
    go_wp2_with fail
    refine (refRuns_calls a0 cap0 l _ (hI.on hb1) hl T HT).mono ?_
    rintro e w2 ⟨v2, rfl, hO2, hb2⟩
    go_wp2_with fail
    refine (spans_calls v1 v2 T.length T _ _ _ rfl (by omega) (own_on hO1 hb2) hO2).mono ?_
    rintro e w3 ⟨rfl, hb3⟩
    go_wp2_with fail
    refine (turns_calls a0 cap0 l _ (((hI.on hb1).on hb2).on hb3) hl N HN).mono ?_
    rintro e w4 ⟨rfl, hb4⟩
    go_wp2_with fail
    refine (refTurns_calls a0 cap0 l _ ((((hI.on hb1).on hb2).on hb3).on hb4) hl N HN).mono ?_
    rintro e w5 ⟨rfl, hb5⟩
    go_wp2_with fail
    go_ret
    exact ⟨rfl, Below.then_ (Below.then_ (Below.then_ (Below.then_ hb1 hb2) hb3) hb4) hb5⟩

set_option maxRecDepth 100000 in
theorem lifted (os : Os) (started : os.Started) (H : Type) (enc : TypeId × Value → H) :
    ReturnsInHanded {} Try.checked os 8 .any (Rows.reorderRunsSpec.pre6 enc Try.prog Try.f8 Rows.reorderRunsRow.domain false) (Rows.reorderRunsSpec.post enc Try.prog Try.f8 false true false false) := by
  refine returnsInHanded_of_change (C := Try.checked) own started (by kernel_rfl) Try.func8
    (ChangeSpec.witness6 (enc := enc) (C := Try.checked) false ⟨#[], #[.slice none 0 0], []⟩ 8 (by kernel_rfl) (by kernel_rfl) (by kernel_rfl) (by kernel_rfl)) ?_
  intro W base args ds gs before hval0 hW hcnd _
  have hval : ∀ (j : Nat) t v, Try.f8.params[j]? = some t → args[j]? = some v → Value.okWide Try.prog W .any base t v := hval0
  have hW' := hW
  obtain ⟨p, q, hA0, hV, rfl, hfz, hnd⟩ := hW
  have hA : DataW.TrodAll enc Try.prog W 0 (fun _ => true) true Try.f8.params.toList args.toList ds p := hA0
  rw [Try.params8] at hA hval
  obtain ⟨v0, vs0, d0, ds0, p0, q0, hargs, rfl, rfl, h0, r0⟩ := trodAll_cons hA
  obtain ⟨rfl, rfl, rfl⟩ := trodAll_nil r0
  obtain rfl : args = #[v0] := by cases args; simp_all
  obtain ⟨rfl, rfl⟩ := trodVars_none hV
  obtain ⟨a0, len0, cap0, rfl⟩ := okWide_slice Try.underlying22 (hval 0 22 v0 rfl rfl)
  have k0 := h0
  have lt0 : ∀ x ∈ p0, x.block < W.heap.size := by obtain ⟨m, hm⟩ := k0; exact DataW.trod_lt m _ _ _ hm
  obtain ⟨z0, w0⟩ : ∃ zs, IsRow .i64 W a0 len0 cap0 zs := by
    obtain ⟨fuel, hf⟩ := h0
    rcases open_ints Try.underlying22 Try.underlying3 (by kernel_rfl) hf with ⟨hcs, _⟩ | ⟨x, l, c, zs, hcs, _, hl, hm, hz, _, hcell, hwz⟩
    · simp [Value.cells] at hcs
      obtain ⟨rfl, rfl, rfl⟩ := hcs
      exact ⟨[], .inl ⟨rfl, rfl, rfl, rfl⟩⟩
    · simp [Value.cells] at hcs
      obtain ⟨rfl, rfl, rfl⟩ := hcs
      exact ⟨zs, .inr ⟨_, rfl, hl, hm, by simpa using hz, hcell, hwz⟩⟩
  clear hA0 hval0
  refine (walk a0 len0 cap0 z0 W w0).mono fun e W' ⟨he, bel⟩ => ?_
  subst he
  exact ⟨_, rfl, _, _, _, [], _, [], hW', trodAll_mk1 (shut_bool Try.underlying4 _), (trodAll_cons_mk (Below.trod laidOut (by kernel_rfl) (of_decide_eq_true (by kernel_rfl)) k0 bel lt0) trodAll_mk0), rfl, bel.frame _, fun h => by cases h⟩

theorem over : Rows.reorderRunsRow.holds Try.pinned (OpenSpec.ofChange Rows.reorderRunsSpec) :=
  OpenClaim.holds_of_wide 8 Try.f8 rfl rfl rfl rfl rfl rfl rfl ⟨rfl, rfl, rfl, rfl, rfl⟩ rfl rfl rfl rfl rfl (by kernel_rfl) Try.func8 (by kernel_rfl)
    (of_decide_eq_true (by kernel_rfl)) (by unfold Func.isWrapper; first | (rw [if_pos (by decide +kernel)]; kernel_rfl) | (rw [if_neg (by decide +kernel)]; exact ⟨rfl, rfl⟩))
    (fun os started H enc _ => lifted os started H enc)

theorem proved : Rows.ReorderRunsSaid := over
#print axioms proved
end Go.Proofs.Ytlcijmllffablaa.reorderRuns
