/-
  NeutralTells: the resolution of neutral classes and the level's way agree with the reference's, for any numbers as classes (of more than 200 classes the law says nothing). No condition.
  The frame follows the shells of the kit's program proof-skeleton.mjs, for parameters that it does not serve.
-/
import Derived.Test.YthlmbmopdjnjaaaAlive
import Derived.Test.YthlmbmopdjnjaaaRows
import Derived.WalkKit
import Derived.Deep.RegionHeld3
import Derived.ProofKit
import Derived.OpenShut
import Derived.ShutString
import Derived.ChangeOld
import Derived.Below
namespace Go.Proofs.Ythlmbmopdjnjaaa.neutralTells
open Go.ChangeShapes Go.WideShapes Go.ChangeAt Go.RowKit
open Go.ChangeMaps (open_string shut_string)
set_option linter.unusedVariables false

theorem own : ownKnob Try.prog.godebug = none := by kernel_rfl
theorem laidOut : laidOutB Try.prog = true := by kernel_rfl

/-- a slice of ints that came in: nil, or it leads to a row of 'cap' cells, of which the first 'len' are its elements -/
def IsRow (k : IntKind) (w : World) (a : Option Addr) (len cap : Nat) (zs : List Int) : Prop :=
  (a = none ∧ len = 0 ∧ cap = 0 ∧ zs = []) ∨
  ∃ x, a = some x ∧ len ≤ cap ∧ cap ≤ maxLen ∧ zs.length = cap ∧ (∀ i, i < zs.length → w.cell? (x.add i) = some (.int k (zs.getD i 0))) ∧ ∀ n ∈ zs, (Lit.int k n).wf = true

theorem block_lt {w : World} {x : Addr} {v : Value} (h : w.cell? x = some v) : x.block < w.heap.size := World.block_lt_of_cell? w x h
/-- what came in, as a list -/
theorem view {w : World} {a : Option Addr} {len cap : Nat} {zs : List Int} (h : IsRow .i64 w a len cap zs) :
    ∃ l : List Int, len = l.length ∧ Ints w w.heap.size a l ∧ ∀ x ∈ l, -9223372036854775808 ≤ x ∧ x ≤ 9223372036854775807 := by
  rcases h with ⟨rfl, rfl, rfl, rfl⟩ | ⟨x, rfl, hl, hm, hz, hcell, hwz⟩
  · exact ⟨[], rfl, .inl rfl, by simp⟩
  · refine ⟨zs.take len, by rw [List.length_take]; omega, ?_, fun y hy => bounds_i64 (hwz y (List.mem_of_mem_take hy))⟩
    rcases Nat.eq_zero_or_pos len with h0 | h0
    · subst h0
      exact .inl (by simp)
    · obtain ⟨b, off, spot⟩ := x
      have hc := hcell 0 (by omega)
      have hspot : spot = none := by simpa [Addr.add] using World.cell?_spot hc
      subst hspot
      refine .inr ⟨b, off, rfl, by simpa [Addr.add] using block_lt hc, fun k y hy => ?_⟩
      rw [List.getElem?_take] at hy
      split at hy
      · have hk := hcell k (by omega)
        rw [List.getD_eq_getElem?_getD, hy] at hk
        simpa [Addr.add_lit] using hk
      · cases hy

section
variable {H : Type} {enc : TypeId × Value → H} {P : Program} {w : World} {base : Nat} {spare : Nat → Bool} {held : Bool}
/-- an array of two ints that came in by value -/
theorem open_arr2 {r : Reach} {b0 : Nat} {t e : TypeId} {v : Value} {d : DataW H} {p : List MemPlace} (ht : P.underlying t = some (.array 2 e)) (he : P.underlying e = some (.int .i64)) (hce : P.cellsOf e = 1) (hct : P.cellsOf t = 2)
    (hv : Value.okWide P w r b0 t v) (h : DataW.Trod enc P w base spare held t v d p) : ∃ x y : Int, v = .agg #[.int .i64 x, .int .i64 y] ∧ (Lit.int .i64 x).wf = true ∧ (Lit.int .i64 y).wf = true := by
  have hv' : ∃ cs, v = .agg cs ∧ cs.size = P.cellsOf t := by
    simp only [Value.okWide, ht] at hv
    obtain ⟨cs, h1, h2, _⟩ := hv
    exact ⟨cs, h1, h2⟩
  obtain ⟨cs, rfl, hs⟩ := hv'
  rw [hct] at hs
  obtain ⟨l⟩ := cs
  match l, hs with
  | [c0, c1], _ =>
    obtain ⟨fuel, hf⟩ := h
    obtain ⟨xs, m, _, _, _, hl, hel⟩ := DataW.trod_array ht hf
    match xs, hl with
    | [y0, y1], _ =>
      have h0 := hel 0 (by omega)
      have h1 := hel 1 (by omega)
      rw [hce] at h0 h1
      simp [Value.cells] at h0 h1
      obtain ⟨x, e0, _, wx⟩ := DataW.trod_int he h0
      obtain ⟨y, e1, _, wy⟩ := DataW.trod_int he h1
      simp at e0 e1
      subst e0 e1
      exact ⟨x, y, rfl, wx, wy⟩
end

set_option maxHeartbeats 1000000 in
set_option maxRecDepth 100000 in
theorem walk (a0 : Option Addr) (len0 cap0 : Nat) (z0 : List Int) (a1 : Int) (x2_0 x2_1 : Int) (w : World) (w0 : IsRow .i64 w a0 len0 cap0 z0) (w1 : (Lit.int .i64 a1).wf = true) (w_x2_0 : (Lit.int .i64 x2_0).wf = true) (w_x2_1 : (Lit.int .i64 x2_1).wf = true) :
    Calls Try.prog 3 #[.slice a0 len0 cap0, .int .i64 a1, .agg #[.int .i64 x2_0, .int .i64 x2_1]] w fun e w' => e = .returned (.bool true) ∧ Below w.heap.size w w' := by
  obtain ⟨l, rfl, hI, _⟩ := view w0
  have hbb : Below w.heap.size w (w.alloc (.cells #[.int .i64 x2_0, .int .i64 x2_1] 23)) := (Below.refl _ _).alloc (Nat.le_refl _) _
  have hIb2 : Ints (w.alloc (.cells #[.int .i64 x2_0, .int .i64 x2_1] 23)) (w.alloc (.cells #[.int .i64 x2_0, .int .i64 x2_1] 23)).heap.size a0 l := (hI.alloc (Nat.le_refl _) _).more hbb.size
  have hbx : Blk (w.alloc (.cells #[.int .i64 x2_0, .int .i64 x2_1] 23)) w.heap.size 23 [.int .i64 x2_0, .int .i64 x2_1] := Blk.new w 23 _
  by_cases hn : 200 < l.length
  · have hn' : (200 : Int) < (l.length : Int) := by omega
    clear hIb2 hbx hbb
    go_enter Try.func3, Try.ntmps3
    go_wp2_with fail
    refine (alive_calls _).mono ?_
    rintro e w1 ⟨rfl, hb⟩
    go_wp2_with fail
    go_ret
    exact ⟨rfl, ((Below.refl _ _).alloc (Nat.le_refl _) _).trans (hb.mono (by simp))⟩
  · have hn' : ¬ (200 : Int) < (l.length : Int) := by omega
    have hl : l.length ≤ 200 := by omega
    obtain ⟨X, hX⟩ : ∃ X, X = neuL l a1 x2_0 x2_1 := ⟨_, rfl⟩
    have hXl : X.length = l.length := by rw [hX, neuL_length]
    have HX := Lib.hid hX
    have HXl := Lib.hid hXl
    have hX2 : X.length ≤ 100000 := by omega
    obtain ⟨em, hem⟩ : ∃ x, emb a1 = x := ⟨_, rfl⟩
    have HEM := Lib.hid hem
    have hdd : (em == em) = true := by simp
    have e0 := hbx.cell 0
    have e1 := hbx.cell 1
    have hwb := hbx.lt
    clear hX hXl hn hem hbx
    go_enter Try.func3, Try.ntmps3
    go_wp2_with fail
    generalize w.alloc (.cells #[.int .i64 x2_0, .int .i64 x2_1] 23) = wb at *
    go_region_held3 (fun w' => w'.cell? ⟨w.heap.size, 0, none⟩ = some (.int .i64 x2_0) ∧ w'.cell? ⟨w.heap.size, 1, none⟩ = some (.int .i64 x2_1)) (go_keep) (first | (go_at_call 9; refine (neutral_calls a0 cap0 l a1 x2_0 x2_1 _ (by exact hIb2) hl).mono ?_; rintro e w1 ⟨v1, rfl, hO1, hb0⟩; have hb1 : Below wb.heap.size wb w1 := ⟨hb0.os, hb0.tape, hb0.output, hb0.size, hb0.block⟩; clear hb0; have hO1' : w1.ownsRow wb.heap.size 3 1 v1 X.length (ivs X) := (by rw [HX.out, neuL_length]; exact hO1); obtain ⟨A1, c1, hv1, hI1⟩ := own_ints hO1'; subst hv1; have f0 := (hb1.cell (p := ⟨w.heap.size, 0, none⟩) hwb).trans e0; have f1 := (hb1.cell (p := ⟨w.heap.size, 1, none⟩) hwb).trans e1; clear hO1 hO1') | (go_at_call 10; refine (refNeutral_calls a0 cap0 l a1 x2_0 x2_1 _ (by exact hIb2.on hb1) hl).mono ?_; rintro e w2 ⟨v2, rfl, hO2, hb2⟩; have hO2' : w2.ownsRow w1.heap.size 3 1 v2 X.length (ivs X) := (by rw [HX.out, neuL_length]; exact hO2); obtain ⟨A2, c2, hv2, hI2⟩ := own_ints hO2'; subst hv2; have k0 := (hb2.cell (p := ⟨w.heap.size, 0, none⟩) (Nat.lt_of_lt_of_le hwb hb1.size)).trans f0; have k1 := (hb2.cell (p := ⟨w.heap.size, 1, none⟩) (Nat.lt_of_lt_of_le hwb hb1.size)).trans f1; clear hO2 hO2') | (go_at_call 8; refine (same_below A1 A2 c1 c2 X X _ (by exact hI1.on hb2) (by exact hI2) hX2 true (by unfold Hid; simp)).mono ?_; rintro e w3 ⟨rfl, hb3⟩; have hb4 := Below.then_ (hbb.trans (hb1.mono (Nat.le_of_lt hwb))) hb2; have m0 := (hb3.cell (p := ⟨w.heap.size, 0, none⟩) (Nat.lt_of_lt_of_le (Nat.lt_of_lt_of_le hwb hb1.size) hb2.size)).trans k0; have m1 := (hb3.cell (p := ⟨w.heap.size, 1, none⟩) (Nat.lt_of_lt_of_le (Nat.lt_of_lt_of_le hwb hb1.size) hb2.size)).trans k1) | (go_at_call 11; refine (embed_calls a1 em HEM _).mono ?_; rintro e w4 ⟨rfl, rfl⟩) | (go_at_call 12; refine (embed1_calls a1 em HEM _).mono ?_; rintro e w4 ⟨rfl, rfl⟩) | (go_at_call 7; refine (alive_calls _).mono ?_; rintro e w5 ⟨rfl, hb5⟩; have hw3 := Nat.lt_of_lt_of_le (Nat.lt_of_lt_of_le (Nat.lt_of_lt_of_le hwb hb1.size) hb2.size) hb3.size; have n0 := (hb5.cell (p := ⟨w.heap.size, 0, none⟩) hw3).trans m0; have n1 := (hb5.cell (p := ⟨w.heap.size, 1, none⟩) hw3).trans m1; clear hw3))
    go_wp2_with fail
    go_ret
    exact ⟨rfl, Below.then_ (Below.then_ hb4 hb3) hb5⟩

set_option maxRecDepth 100000 in
theorem lifted (os : Os) (started : os.Started) (H : Type) (enc : TypeId × Value → H) :
    ReturnsInHanded {} Try.checked os 3 .any (Rows.neutralTellsSpec.pre6 enc Try.prog Try.f3 Rows.neutralTellsRow.domain false) (Rows.neutralTellsSpec.post enc Try.prog Try.f3 false true false false) := by
  refine returnsInHanded_of_change (C := Try.checked) own started (by kernel_rfl) Try.func3
    (ChangeSpec.witness6 (enc := enc) (C := Try.checked) false ⟨#[], #[.slice none 0 0, .int .i64 0, .agg #[.int .i64 0, .int .i64 0]], []⟩ 8 (by kernel_rfl) (by kernel_rfl) (by kernel_rfl) (by kernel_rfl)) ?_
  intro W base args ds gs before hval0 hW hcnd _
  have hval : ∀ (j : Nat) t v, Try.f3.params[j]? = some t → args[j]? = some v → Value.okWide Try.prog W .any base t v := hval0
  have hW' := hW
  obtain ⟨p, q, hA0, hV, rfl, hfz, hnd⟩ := hW
  have hA : DataW.TrodAll enc Try.prog W 0 (fun _ => true) true Try.f3.params.toList args.toList ds p := hA0
  rw [Try.params3] at hA hval
  obtain ⟨v0, vs0, d0, ds0, p0, q0, hargs, rfl, rfl, h0, r0⟩ := trodAll_cons hA
  obtain ⟨v1, vs1, d1, ds1, p1, q1, rfl, rfl, rfl, h1, r1⟩ := trodAll_cons r0
  obtain ⟨v2, vs2, d2, ds2, p2, q2, rfl, rfl, rfl, h2, r2⟩ := trodAll_cons r1
  obtain ⟨rfl, rfl, rfl⟩ := trodAll_nil r2
  obtain rfl : args = #[v0, v1, v2] := by cases args; simp_all
  obtain ⟨rfl, rfl⟩ := trodVars_none hV
  obtain ⟨a0, len0, cap0, rfl⟩ := okWide_slice Try.underlying22 (hval 0 22 v0 rfl rfl)
  have k0 := h0
  have lt0 : ∀ x ∈ p0, x.block < W.heap.size := by obtain ⟨m, hm⟩ := k0; exact DataW.trod_lt m _ _ _ hm
  obtain ⟨z0, w0⟩ : ∃ zs, IsRow .i64 W a0 len0 cap0 zs := by
    obtain ⟨fuel, hf⟩ := h0
    rcases open_ints Try.underlying22 Try.underlying3 (by kernel_rfl) hf with ⟨hcs, _⟩ | ⟨x, l, c, zs, hcs, _, hl, hm, hz, _, hcell, hwz⟩
    · simp [Value.cells] at hcs
      obtain ⟨rfl, rfl, rfl⟩ := hcs
      exact ⟨[], .inl ⟨rfl, rfl, rfl, rfl⟩⟩
    · simp [Value.cells] at hcs
      obtain ⟨rfl, rfl, rfl⟩ := hcs
      exact ⟨zs, .inr ⟨_, rfl, hl, hm, by simpa using hz, hcell, hwz⟩⟩
  obtain ⟨a1, rfl, rfl, rfl, w1⟩ := open_int Try.underlying3 (hval 1 3 v1 rfl rfl) h1
  have k2 := h2
  have lt2 : ∀ x ∈ p2, x.block < W.heap.size := by obtain ⟨m, hm⟩ := k2; exact DataW.trod_lt m _ _ _ hm
  obtain ⟨x2_0, x2_1, rfl, w_x2_0, w_x2_1⟩ := open_arr2 Try.underlying23 Try.underlying3 (by kernel_rfl) (by kernel_rfl) (hval 2 23 v2 rfl rfl) h2
  clear hA0 hval0
  refine (walk a0 len0 cap0 z0 a1 x2_0 x2_1 W w0 w1 w_x2_0 w_x2_1).mono fun e W' ⟨he, bel⟩ => ?_
  subst he
  exact ⟨_, rfl, _, _, _, [], _, [], hW', trodAll_mk1 (shut_bool Try.underlying4 _), (trodAll_cons_mk (Below.trod laidOut (by kernel_rfl) (of_decide_eq_true (by kernel_rfl)) k0 bel lt0) (trodAll_cons_mk (shut_int Try.underlying3 w1) (trodAll_cons_mk (Below.trod laidOut (by kernel_rfl) (of_decide_eq_true (by kernel_rfl)) k2 bel lt2) trodAll_mk0))), rfl, bel.frame _, fun h => by cases h⟩

theorem over : Rows.neutralTellsRow.holds Try.pinned (OpenSpec.ofChange Rows.neutralTellsSpec) :=
  OpenClaim.holds_of_wide 3 Try.f3 rfl rfl rfl rfl rfl rfl rfl ⟨rfl, rfl, rfl, rfl, rfl⟩ rfl rfl rfl rfl rfl (by kernel_rfl) Try.func3 (by kernel_rfl)
    (of_decide_eq_true (by kernel_rfl)) (by unfold Func.isWrapper; first | (rw [if_pos (by decide +kernel)]; kernel_rfl) | (rw [if_neg (by decide +kernel)]; exact ⟨rfl, rfl⟩))
    (fun os started H enc _ => lifted os started H enc)

theorem proved : Rows.NeutralTellsSaid := over
#print axioms proved
end Go.Proofs.Ythlmbmopdjnjaaa.neutralTells
