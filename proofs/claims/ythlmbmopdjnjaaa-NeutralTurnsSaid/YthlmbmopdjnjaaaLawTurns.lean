/-
  NeutralTurns: the resolution of neutral classes is the same from behind (of more than 200 classes the law says nothing). No condition.
  The frame (but for the walk and the lemmas ahead of it) was written by the kit's program proof-skeleton.mjs.
-/
import Derived.Test.YthlmbmopdjnjaaaAlive
import Derived.Test.YthlmbmopdjnjaaaRows
import Derived.WalkKit
import Derived.ProofKit
import Derived.OpenShut
import Derived.ShutString
import Derived.ChangeOld
import Derived.Below
namespace Go.Proofs.Ythlmbmopdjnjaaa.neutralTurns
open Go.ChangeShapes Go.WideShapes Go.ChangeAt Go.RowKit
open Go.ChangeMaps (open_string shut_string)
set_option linter.unusedVariables false

theorem own : ownKnob Try.prog.godebug = none := by kernel_rfl
theorem laidOut : laidOutB Try.prog = true := by kernel_rfl

/-- WHAT THE WALK IS TOLD OF A SLICE OF INTEGERS THAT CAME IN: it is nil; or it leads to a row of 'cap' cells, the numbers 'zs' (the first 'len' are its elements, the rest its spare room), each fitting its kind. -/
def IsRow (k : IntKind) (w : World) (a : Option Addr) (len cap : Nat) (zs : List Int) : Prop :=
  (a = none ∧ len = 0 ∧ cap = 0 ∧ zs = []) ∨
  ∃ x, a = some x ∧ len ≤ cap ∧ cap ≤ maxLen ∧ zs.length = cap ∧ (∀ i, i < zs.length → w.cell? (x.add i) = some (.int k (zs.getD i 0))) ∧ ∀ n ∈ zs, (Lit.int k n).wf = true

theorem block_lt {w : World} {x : Addr} {v : Value} (h : w.cell? x = some v) : x.block < w.heap.size := World.block_lt_of_cell? w x h
/-- what came in, as a list -/
theorem view {w : World} {a : Option Addr} {len cap : Nat} {zs : List Int} (h : IsRow .i64 w a len cap zs) :
    ∃ l : List Int, len = l.length ∧ Ints w w.heap.size a l ∧ ∀ x ∈ l, -9223372036854775808 ≤ x ∧ x ≤ 9223372036854775807 := by
  rcases h with ⟨rfl, rfl, rfl, rfl⟩ | ⟨x, rfl, hl, hm, hz, hcell, hwz⟩
  · exact ⟨[], rfl, .inl rfl, by simp⟩
  · refine ⟨zs.take len, by rw [List.length_take]; omega, ?_, fun y hy => bounds_i64 (hwz y (List.mem_of_mem_take hy))⟩
    rcases Nat.eq_zero_or_pos len with h0 | h0
    · subst h0
      exact .inl (by simp)
    · obtain ⟨b, off, spot⟩ := x
      have hc := hcell 0 (by omega)
      have hspot : spot = none := by simpa [Addr.add] using World.cell?_spot hc
      subst hspot
      refine .inr ⟨b, off, rfl, by simpa [Addr.add] using block_lt hc, fun k y hy => ?_⟩
      rw [List.getElem?_take] at hy
      split at hy
      · have hk := hcell k (by omega)
        rw [List.getD_eq_getElem?_getD, hy] at hk
        simpa [Addr.add_lit] using hk
      · cases hy

theorem next_prev (l : List Int) (e : Int) : ∀ i, i ≤ l.length → nextW e (l.take i).reverse = prevW l e i
  | 0, _ => rfl
  | i + 1, h => by
    have hx : l[i]? = some (l[i]'(by omega)) := List.getElem?_eq_getElem (by omega)
    rw [take_at hx, List.reverse_append, List.reverse_singleton, List.singleton_append, nextW, prevW, getD_of hx, next_prev l e i (by omega)]
theorem rev_take (l : List Int) (i : Nat) (h : i ≤ l.length) : l.reverse.drop (l.length - i) = (l.take i).reverse := by
  rw [List.drop_reverse]
  congr 2
  omega
theorem mix_symm (lv a b : Int) : mix lv a b = mix lv b a := by
  unfold mix
  by_cases h : a = b
  · rw [if_pos h, if_pos h.symm, h]
  · rw [if_neg h, if_neg (fun e => h e.symm)]
theorem val_rev (l : List Int) (lv sos eos : Int) (i j : Nat) (h : i + j + 1 = l.length) : valAt l.reverse lv eos sos j = valAt l lv sos eos i := by
  have hx : l[i]? = some (l[i]'(by omega)) := List.getElem?_eq_getElem (by omega)
  have hr : l.reverse[j]? = some (l[i]'(by omega)) := by
    rw [List.getElem?_reverse (by omega), show l.length - 1 - j = i from by omega]
    exact hx
  have e1 : nextW (en sos) (l.reverse.drop (j + 1)) = prevW l (en sos) i := by
    rw [show j + 1 = l.length - i from by omega, rev_take l i (by omega), next_prev l _ i (by omega)]
  have e2 : prevW l.reverse (en eos) j = nextW (en eos) (l.drop (i + 1)) := by
    rw [← next_prev l.reverse _ j (by rw [List.length_reverse]; omega), ← rev_take l.reverse j (by rw [List.length_reverse]; omega), List.reverse_reverse, List.length_reverse, show l.length - j = i + 1 from by omega]
  rw [valAt, valAt, getD_of hx, getD_of hr, e1, e2, mix_symm]
theorem neu_rev (l : List Int) (lv sos eos x : Int) (i j : Nat) (h : i + j + 1 = l.length) (hx : (neuL l lv sos eos)[i]? = some x) : (neuL l.reverse lv eos sos)[j]? = some x := by
  rw [neuL_get _ _ _ _ _ (by omega)] at hx
  rw [neuL_get _ _ _ _ _ (by rw [List.length_reverse]; omega), val_rev l lv sos eos i j h]
  exact hx
theorem rev_step {l C : List Int} {i j : Nat} {x : Int} (h : Filled l.reverse C i) (hi : i + j + 1 = l.length) (hx : l[j]? = some x) : Filled l.reverse (C.set i x) (i + 1) := by
  obtain ⟨h1, h2⟩ := h
  refine ⟨by simpa using h1, fun k hk => ?_⟩
  by_cases e : k = i
  · subst e
    rw [List.length_reverse] at h1
    rw [List.getElem?_set_self (by omega), List.getElem?_reverse (by omega), show l.length - 1 - k = j from by omega, hx]
  · rw [List.getElem?_set_ne (by omega)]
    exact h2 k (by omega)

theorem walk (a0 : Option Addr) (len0 cap0 : Nat) (z0 : List Int) (a1 : Int) (w : World) (w0 : IsRow .i64 w a0 len0 cap0 z0) (w1 : (Lit.int .i64 a1).wf = true) :
    Calls Try.prog 6 #[.slice a0 len0 cap0, .int .i64 a1] w fun e w' => e = .returned (.bool true) ∧ Below w.heap.size w w' := by
  obtain ⟨l, rfl, hI, _⟩ := view w0
  by_cases hn : 200 < l.length
  · have hn' : (200 : Int) < (l.length : Int) := by omega
    go_enter Try.func6, Try.ntmps6
    go_wp2_with fail
    refine (alive_calls _).mono ?_
    rintro e w1 ⟨rfl, hb⟩
    go_wp2_with fail
    go_ret
    exact ⟨rfl, hb⟩
  · have hn' : ¬ (200 : Int) < (l.length : Int) := by omega
    have hl : l.length ≤ 200 := by omega
    clear hn
    obtain ⟨i3, hi, hz0, hz1, hz2⟩ := info_parts (show (Try.prog.info? 3).map (fun i => (i.zero, i.size, i.bytes)) = some (some (.int .i64 0), 1, 8) by kernel_rfl)
    obtain ⟨g, hg⟩ : ∃ g, g = w.heap.size := ⟨_, rfl⟩
    go_enter Try.func6, Try.ntmps6
    go_wp2_with (at_make; refine wpList_make_full _ rfl _ _ _ rfl w.heap.size 3 i3 (.int .i64 0) 1 Try.underlying22 hi hz0 hz1 .i64 .i64 l.length l.length l.length rfl rfl rfl rfl (by rw [hz2]; omega) (by unfold maxLen; omega) (Nat.le_refl _) ?_; intro w1 hown hgrow)
    have hb1 : Below w.heap.size w w1 := (Below.refl _ _).grown hgrow (Nat.le_refl _) (by intro k hk; cases hk)
    have hblk := own_blk hown
    rw [zeros_int] at hblk
    rw [← hg] at hblk ⊢
    have hwg : w.heap.size ≤ g := by omega
    have HG := Lib.hid hg
    clear hown hgrow hi hz0 hz1 hz2 hg
    go_loopw [7] (fun a wr => ∃ (k : Nat) (C : List Int), a = .int .i64 k ∧ k ≤ l.length ∧ Blk wr g 3 (ivs C) ∧ Hid (Filled l.reverse C k) ∧ Below w.heap.size w wr) (fun a _ => l.length - (intOf a).toNat)
    case atStart => exact ⟨0, _, rfl, Nat.zero_le _, hblk, ⟨by simp, by intro j hj; omega⟩, hb1⟩
    case round =>
      obtain ⟨k, C, rfl, hk, hC, HF, hb⟩ := hrel
      clear hblk hb1
      by_cases hlt : k < l.length
      · obtain ⟨b, off, x, rfl, hlb, hx, hc⟩ := (hI.below hb).at_ (k := l.length - 1 - k) (by omega)
        obtain ⟨old, hold⟩ : ∃ old, C[k]? = some old := ⟨_, List.getElem?_eq_getElem (by have h := HF.out.1; rw [List.length_reverse] at h; omega)⟩
        have hcell : wr.cell? ⟨g, k, none⟩ = some (.int .i64 old) := by rw [hC.cell, ivs_get, hold]; rfl
        have hfz : wr.frozen? ⟨g, k, none⟩ = false := hC.frozen k
        have hCq := hC.set_ k (.int .i64 x)
        rw [ivs_set] at hCq
        have HFq := Lib.hid (rev_step (x := x) HF.out (show k + (l.length - 1 - k) + 1 = l.length by omega) hx)
        have hbq := hb.setCell (p := ⟨g, k, none⟩) hwg (.int .i64 x)
        clear hx hold
        go_wp2_with fail
        go_roundw
        case rel => exact ⟨k + 1, _, by go_num, by omega, hCq, HFq, hbq⟩
        case measure => simp [intOf]; omega
      · have hkl : k = l.length := by omega
        have hF := HF.out
        rw [hkl, ← List.length_reverse] at hF
        rw [filled_end hF] at hC
        obtain ⟨R, hR⟩ : ∃ R, R = l.reverse := ⟨_, rfl⟩
        rw [← hR] at hC
        have hRl : R.length = l.length := by rw [hR, List.length_reverse]
        obtain ⟨X, hX⟩ : ∃ X, X = neuL l a1 1 2 := ⟨_, rfl⟩
        obtain ⟨Y, hY⟩ : ∃ Y, Y = neuL R a1 2 1 := ⟨_, rfl⟩
        have hXl : X.length = l.length := by rw [hX, neuL_length]
        have hYl : Y.length = l.length := by rw [hY, neuL_length, hRl]
        have hXY : ∀ i j x, i + j + 1 = l.length → X[i]? = some x → Y[j]? = some x := by
          intro i j x hij hx
          rw [hX] at hx
          rw [hY, hR]
          exact neu_rev l a1 1 2 x i j hij hx
        have HXY := Lib.hid hXY
        have HX := Lib.hid hX
        have HY := Lib.hid hY
        have HXl := Lib.hid hXl
        have HYl := Lib.hid hYl
        have HRl := Lib.hid hRl
        have hd1 : ((X.length : Int) != (l.length : Int)) = false := by simp [hXl]
        have hd2 : ((Y.length : Int) != (l.length : Int)) = false := by simp [hYl]
        have hX2 : X.length ≤ 200 := by omega
        have hY2 : Y.length ≤ 200 := by omega
        have hR2 : R.length ≤ 200 := by omega
        have hIR := hC.ints
        clear hF hkl hR hX hY hXl hYl hXY
        go_wp2_with fail
        refine (neutral_calls a0 cap0 l a1 1 2 _ ((hI.below hb).more hb.size) hl).mono ?_
        rintro e w2 ⟨v2, rfl, hO2, hb2⟩
        rw [← HX.out, ← HXl.out] at hO2
        obtain ⟨A2, c2, hv2, hI2⟩ := own_ints hO2
        rw [hv2]
        clear hO2 hv2
        have hRR := neutral_calls (some ⟨g, 0, none⟩) l.length R a1 2 1 w2 (hIR.on hb2) hR2
        rw [hRl] at hRR
        have HRR := Lib.hid hRR
        clear hRR hRl
        go_wp2_with fail
        refine HRR.out.mono ?_
        rintro e w3 ⟨v3, rfl, hO3, hb3⟩
        rw [← HY.out, ← HYl.out] at hO3
        obtain ⟨A3, c3, hv3, hI3⟩ := own_ints hO3
        rw [hv3]
        clear hO3 hv3
        have hI2' := hI2.on hb3
        have hb4 := Below.then_ (Below.then_ hb hb2) hb3
        go_wp2_with fail
        go_loopw [10] (fun a wr => ∃ k : Nat, a = .int .i64 k ∧ k ≤ l.length ∧ ∃ n, wr = w3.drewN n) (fun a _ => l.length - (intOf a).toNat)
        case atStart => exact ⟨0, rfl, Nat.zero_le _, 0, rfl⟩
        case round =>
          obtain ⟨k, rfl, hk, n, rfl⟩ := hrel
          by_cases hlt : k < l.length
          · obtain ⟨j, hj⟩ : ∃ j, k + j + 1 = l.length := ⟨l.length - 1 - k, by omega⟩
            obtain ⟨b, off, x, rfl, hlb, hx, hc⟩ := hI2'.at_ (k := k) (by rw [HXl.out]; exact hlt)
            have hy := HXY.out k j x hj hx
            obtain ⟨b3, off3, y, rfl, hlb3, hy3, hc3⟩ := hI3.at_ (k := j) (by rw [HYl.out]; omega)
            rw [hy] at hy3
            injection hy3 with hy3
            rw [← hy3] at hc3
            have hw1 : IntKind.i64.wrap ((l.length : Int) - 1) = (l.length : Int) - 1 := IntWalk.i64_in _ (by omega)
            have hw2 : IntKind.i64.wrap ((l.length : Int) - 1 - k) = (j : Int) := by rw [IntWalk.i64_in _ (by omega)]; omega
            have hXi : (k : Int) < (X.length : Int) := by rw [HXl.out]; omega
            have hYi : (j : Int) < (Y.length : Int) := by rw [HYl.out]; omega
            have hdd : (x != x) = false := by simp
            have HJ := Lib.hid hj
            clear hx hy hy3 hj
            go_wp2_with fail
            go_quiet (fail)
            clear hw1 hw2
            go_wp2_with fail
            go_roundw
            case rel => exact ⟨k + 1, by go_num, by omega, _, rfl⟩
            case measure => simp [intOf]; omega
          · go_wp2_with fail
            refine (alive_calls _).mono ?_
            rintro e w4 ⟨rfl, hb5⟩
            go_wp2_with fail
            go_ret
            exact ⟨rfl, Below.then_ (below_drewN hb4 n) hb5⟩

set_option maxRecDepth 100000 in
theorem lifted (os : Os) (started : os.Started) (H : Type) (enc : TypeId × Value → H) :
    ReturnsInHanded {} Try.checked os 6 .any (Rows.neutralTurnsSpec.pre6 enc Try.prog Try.f6 Rows.neutralTurnsRow.domain false) (Rows.neutralTurnsSpec.post enc Try.prog Try.f6 false true false false) := by
  refine returnsInHanded_of_change (C := Try.checked) own started (by kernel_rfl) Try.func6
    (ChangeSpec.witness6 (enc := enc) (C := Try.checked) false ⟨#[], #[.slice none 0 0, .int .i64 0], []⟩ 8 (by kernel_rfl) (by kernel_rfl) (by kernel_rfl) (by kernel_rfl)) ?_
  intro W base args ds gs before hval0 hW hcnd _
  have hval : ∀ (j : Nat) t v, Try.f6.params[j]? = some t → args[j]? = some v → Value.okWide Try.prog W .any base t v := hval0
  have hW' := hW
  obtain ⟨p, q, hA0, hV, rfl, hfz, hnd⟩ := hW
  have hA : DataW.TrodAll enc Try.prog W 0 (fun _ => true) true Try.f6.params.toList args.toList ds p := hA0
  rw [Try.params6] at hA hval
  obtain ⟨v0, vs0, d0, ds0, p0, q0, hargs, rfl, rfl, h0, r0⟩ := trodAll_cons hA
  obtain ⟨v1, vs1, d1, ds1, p1, q1, rfl, rfl, rfl, h1, r1⟩ := trodAll_cons r0
  obtain ⟨rfl, rfl, rfl⟩ := trodAll_nil r1
  obtain rfl : args = #[v0, v1] := by cases args; simp_all
  obtain ⟨rfl, rfl⟩ := trodVars_none hV
  obtain ⟨a0, len0, cap0, rfl⟩ := okWide_slice Try.underlying22 (hval 0 22 v0 rfl rfl)
  have k0 := h0
  have lt0 : ∀ x ∈ p0, x.block < W.heap.size := by obtain ⟨m, hm⟩ := k0; exact DataW.trod_lt m _ _ _ hm
  obtain ⟨z0, w0⟩ : ∃ zs, IsRow .i64 W a0 len0 cap0 zs := by
    obtain ⟨fuel, hf⟩ := h0
    rcases open_ints Try.underlying22 Try.underlying3 (by kernel_rfl) hf with ⟨hcs, _⟩ | ⟨x, l, c, zs, hcs, _, hl, hm, hz, _, hcell, hwz⟩
    · simp [Value.cells] at hcs
      obtain ⟨rfl, rfl, rfl⟩ := hcs
      exact ⟨[], .inl ⟨rfl, rfl, rfl, rfl⟩⟩
    · simp [Value.cells] at hcs
      obtain ⟨rfl, rfl, rfl⟩ := hcs
      exact ⟨zs, .inr ⟨_, rfl, hl, hm, by simpa using hz, hcell, hwz⟩⟩
  obtain ⟨a1, rfl, rfl, rfl, w1⟩ := open_int Try.underlying3 (hval 1 3 v1 rfl rfl) h1
  clear hA0 hval0
  refine (walk a0 len0 cap0 z0 a1 W w0 w1).mono fun e W' ⟨he, bel⟩ => ?_
  subst he
  exact ⟨_, rfl, _, _, _, [], _, [], hW', trodAll_mk1 (shut_bool Try.underlying4 _), (trodAll_cons_mk (Below.trod laidOut (by kernel_rfl) (of_decide_eq_true (by kernel_rfl)) k0 bel lt0) (trodAll_cons_mk (shut_int Try.underlying3 w1) trodAll_mk0)), rfl, bel.frame _, fun h => by cases h⟩

theorem over : Rows.neutralTurnsRow.holds Try.pinned (OpenSpec.ofChange Rows.neutralTurnsSpec) :=
  OpenClaim.holds_of_wide 6 Try.f6 rfl rfl rfl rfl rfl rfl rfl ⟨rfl, rfl, rfl, rfl, rfl⟩ rfl rfl rfl rfl rfl (by kernel_rfl) Try.func6 (by kernel_rfl)
    (of_decide_eq_true (by kernel_rfl)) (by unfold Func.isWrapper; first | (rw [if_pos (by decide +kernel)]; kernel_rfl) | (rw [if_neg (by decide +kernel)]; exact ⟨rfl, rfl⟩))
    (fun os started H enc _ => lifted os started H enc)

theorem proved : Rows.NeutralTurnsSaid := over
#print axioms proved
end Go.Proofs.Ythlmbmopdjnjaaa.neutralTurns
