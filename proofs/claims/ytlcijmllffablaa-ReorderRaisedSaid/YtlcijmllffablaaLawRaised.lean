/-
  ReorderRaised: levels raised by one turn the order round; within one level places rise or fall by one (of more than 30 levels the law says nothing). No condition.
  The frame (but for the walk and the lemmas ahead of it) was written by the kit's program proof-skeleton.mjs.
-/
import Derived.Test.YtlcijmllffablaaRaised
import Derived.Test.YtlcijmllffablaaSame
import Derived.Test.YtlcijmllffablaaIs
import Derived.Test.YtlcijmllffablaaRows
import Derived.WalkKit
import Derived.ProofKit
import Derived.OpenShut
import Derived.ShutString
import Derived.ChangeOld
import Derived.Below
namespace Go.Proofs.Ytlcijmllffablaa.reorderRaised
open Go.ChangeShapes Go.WideShapes Go.ChangeAt Go.RowKit
open Go.ChangeMaps (open_string shut_string)
set_option linter.unusedVariables false

theorem own : ownKnob Try.prog.godebug = none := by kernel_rfl
theorem laidOut : laidOutB Try.prog = true := by kernel_rfl

/-- WHAT THE WALK IS TOLD OF A SLICE OF INTEGERS THAT CAME IN: it is nil; or it leads to a row of 'cap' cells, the numbers 'zs' (the first 'len' are its elements, the rest its spare room), each fitting its kind. -/
def IsRow (k : IntKind) (w : World) (a : Option Addr) (len cap : Nat) (zs : List Int) : Prop :=
  (a = none ∧ len = 0 ∧ cap = 0 ∧ zs = []) ∨
  ∃ x, a = some x ∧ len ≤ cap ∧ cap ≤ maxLen ∧ zs.length = cap ∧ (∀ i, i < zs.length → w.cell? (x.add i) = some (.int k (zs.getD i 0))) ∧ ∀ n ∈ zs, (Lit.int k n).wf = true

theorem block_lt {w : World} {x : Addr} {v : Value} (h : w.cell? x = some v) : x.block < w.heap.size := World.block_lt_of_cell? w x h
/-- what came in, as a list -/
theorem view {w : World} {a : Option Addr} {len cap : Nat} {zs : List Int} (h : IsRow .i64 w a len cap zs) :
    ∃ l : List Int, len = l.length ∧ Ints w w.heap.size a l ∧ ∀ x ∈ l, -9223372036854775808 ≤ x ∧ x ≤ 9223372036854775807 := by
  rcases h with ⟨rfl, rfl, rfl, rfl⟩ | ⟨x, rfl, hl, hm, hz, hcell, hwz⟩
  · exact ⟨[], rfl, .inl rfl, by simp⟩
  · refine ⟨zs.take len, by rw [List.length_take]; omega, ?_, fun y hy => bounds_i64 (hwz y (List.mem_of_mem_take hy))⟩
    rcases Nat.eq_zero_or_pos len with h0 | h0
    · subst h0
      exact .inl (by simp)
    · obtain ⟨b, off, spot⟩ := x
      have hc := hcell 0 (by omega)
      have hspot : spot = none := by simpa [Addr.add] using World.cell?_spot hc
      subst hspot
      refine .inr ⟨b, off, rfl, by simpa [Addr.add] using block_lt hc, fun k y hy => ?_⟩
      rw [List.getElem?_take] at hy
      split at hy
      · have hk := hcell k (by omega)
        rw [List.getD_eq_getElem?_getD, hy] at hk
        simpa [Addr.add_lit] using hk
      · cases hy

theorem cell_at {w : World} {B b off : Nat} {l : List Int} (h : Ints w B (some ⟨b, off, none⟩) l) {k : Nat} {x : Int} (hx : Hid (l[k]? = some x)) : w.cell? ⟨b, off + k, none⟩ = some (.int .i64 x) := by
  rcases h with rfl | ⟨b', off', hA, _, hc⟩
  · have := hx.out
    simp at this
  · injection hA with hA
    injection hA with h1 h2 _
    subst h1
    subst h2
    exact hc k x hx.out

set_option maxRecDepth 100000 in
theorem walk (a0 : Option Addr) (len0 cap0 : Nat) (z0 : List Int) (w : World) (w0 : IsRow .i64 w a0 len0 cap0 z0) :
    Calls Try.prog 6 #[.slice a0 len0 cap0] w fun e w' => e = .returned (.bool true) ∧ Below w.heap.size w w' := by
  obtain ⟨l, rfl, hI, _⟩ := view w0
  by_cases hn : 30 < l.length
  · go_enter Try.func6, Try.ntmps6
    go_wp2_with fail
    refine (long_calls a0 cap0 l _ true (by simpa using hn)).mono ?_
    rintro e w1 ⟨rfl, rfl⟩
    go_wp2_with fail
    go_ret
    exact ⟨rfl, Below.refl _ _⟩
  · have hn' : l.length ≤ 30 := by omega
    obtain ⟨i3, hi, hz0, hz1, hz2⟩ := info_parts (show (Try.prog.info? 3).map (fun i => (i.zero, i.size, i.bytes)) = some (some (.int .i64 0), 1, 8) by kernel_rfl)
    go_enter Try.func6, Try.ntmps6
    go_wp2_with fail
    refine (long_calls a0 cap0 l _ false (by simpa using hn)).mono ?_
    rintro e w1 ⟨rfl, rfl⟩
    clear hn
    go_wp2_with fail
    go_loopw [3, 4, 5] (fun vA vB i wr => ∃ k : Nat, i = .int .i64 k ∧ k ≤ l.length ∧ wr.ownsRow w.heap.size 3 1 vA k (ivs ((l.take k).map levOf)) ∧ wr.ownsRow w.heap.size 3 1 vB k (ivs ((l.take k).map fun x => levOf x + 1)) ∧ Sep vA vB ∧ Below w.heap.size w wr) (fun _ _ i _ => l.length - (intOf i).toNat)
    case atStart => exact ⟨0, rfl, Nat.zero_le _, World.ownsRow_nil _ _ _ _, World.ownsRow_nil _ _ _ _, sep_nil _, Below.refl _ _⟩
    case round =>
      obtain ⟨k, rfl, hk, hA, hB, hAB, hb⟩ := hrel
      have hsz := hb.size
      by_cases hlt : k < l.length
      · obtain ⟨b, off, x, rfl, hlb, hx, hc⟩ := (hI.below hb).at_ hlt
        have hx' := Lib.hid hx
        have hT := take_at hx
        have HT := Lib.hid hT
        clear hx hT
        obtain ⟨K, hK⟩ : ∃ K, K = levOf x := ⟨_, rfl⟩
        have hK0 : 0 ≤ K := by rw [hK]; exact (lev_bd x).1
        have hK1 : K ≤ 125 := by rw [hK]; exact (lev_bd x).2
        have HK := Lib.hid hK
        clear hK
        go_wp2_with (first | (go_at_call 12; refine (level_calls x _ K HK).mono ?_; rintro e w' ⟨rfl, rfl⟩) | (at_builtin; refine wpList_append_own_at _ rfl (.tmp 18) (.tmp 24) 22 rfl w.heap.size 3 i3 (.int .i64 0) 1 8 Try.underlying22 hi hz0 hz1 hz2 rfl (by decide) _ _ _ rfl (hA.alloc _) ⟨wr.heap.size, 0, none⟩ 1 1 [.int .i64 K] rfl rfl (cell_one_new _ _ _) (one_cell _ rfl) (by unfold maxLen; omega) (by omega) (by simp; omega) ?_; intro vA' w1 hA1 hg1 _ ha1; obtain ⟨hB1, hAB1⟩ := push_other hB hAB hg1 ha1; have hb1 := push_below hb (Nat.le_refl _) hA hg1; have hz1s := hb1.size; have hc2 := cell_at (hI.below hb1) hx') | (at_builtin; refine wpList_append_own_at _ rfl (.tmp 26) (.tmp 33) 22 rfl w.heap.size 3 i3 (.int .i64 0) 1 8 Try.underlying22 hi hz0 hz1 hz2 rfl (by decide) _ _ _ rfl (hB1.alloc _) ⟨w1.heap.size, 0, none⟩ 1 1 [.int .i64 (K + 1)] rfl rfl (cell_one_new _ _ _) (one_cell _ rfl) (by unfold maxLen; omega) (by omega) (by simp; omega) ?_; intro vB' w2 hB2 hg2 _ ha2; obtain ⟨hA2, hBA2⟩ := push_other hA1 hAB1.symm hg2 ha2; have hb2 := push_below hb1 (Nat.le_refl _) hB1 hg2))
        go_roundw
        case rel =>
          refine ⟨k + 1, by go_num, by omega, ?_, ?_, hBA2.symm, hb2⟩
          · rw [HT.out, List.map_append, List.map_singleton, ← HK.out, ← ivs_snoc]; exact hA2
          · rw [HT.out, List.map_append, List.map_singleton, ← HK.out, ← ivs_snoc]; exact hB2
        case measure => simp [intOf]; omega
      · have hkl : k = l.length := by omega
        subst hkl
        rw [List.take_of_length_le (Nat.le_refl _)] at hA hB
        obtain ⟨LA, hLA⟩ : ∃ LA, LA = l.map levOf := ⟨_, rfl⟩
        obtain ⟨LB, hLB⟩ : ∃ LB, LB = l.map fun x => levOf x + 1 := ⟨_, rfl⟩
        have hAl : LA.length = l.length := by rw [hLA]; simp
        have hBl : LB.length = l.length := by rw [hLB]; simp
        have ha : ∀ x ∈ LA, 0 ≤ x ∧ x ≤ 125 := by
          intro x hx
          rw [hLA] at hx
          obtain ⟨y, _, rfl⟩ := List.mem_map.1 hx
          exact lev_bd y
        have hab : ∀ (i : Nat) (x : Int), LA[i]? = some x → LB[i]? = some (x + 1) := by
          intro i x hx
          rw [hLA, List.getElem?_map] at hx
          rw [hLB, List.getElem?_map]
          cases h : l[i]? with
          | none => rw [h] at hx; cases hx
          | some y =>
            rw [h] at hx
            injection hx with hx
            rw [← hx]
            rfl
        have hvr := vis_raised LA LB (by rw [hAl, hBl]) ha hab
        rw [← hLA, ← hAl] at hA
        rw [← hLB, ← hBl] at hB
        obtain ⟨AA, cA, hvA, hIA⟩ := own_ints hA
        obtain ⟨AB, cB, hvB, hIB⟩ := own_ints hB
        rw [hvA, hvB]
        obtain ⟨V, hV⟩ : ∃ V, V = vis LA := ⟨_, rfl⟩
        obtain ⟨W, hW⟩ : ∃ W, W = vis LB := ⟨_, rfl⟩
        have hVl : V.length = LA.length := by rw [hV, vis_length]
        have hWl : W.length = LA.length := by rw [hW, vis_length, hBl, hAl]
        have hWV : W = V.reverse := by rw [hW, hV, hvr]
        have hd1 : ((V.length : Int) != (LA.length : Int)) = false := by simp [hVl]
        have hd2 : ((W.length : Int) != (LA.length : Int)) = false := by simp [hWl]
        have hA30 : LA.length ≤ 30 := by omega
        have hB100 : LB.length ≤ 100 := by omega
        have HAL := Lib.hid ha
        have HV := Lib.hid hV
        have HW := Lib.hid hW
        have HWV := Lib.hid hWV
        have HVl := Lib.hid hVl
        have HWl := Lib.hid hWl
        have HAl := Lib.hid hAl
        clear hvA hvB hA hB hAB hV hW hVl hWl hWV hvr hab ha hAl hBl hLA hLB hi hz0 hz1 hz2
        go_wp2_with fail
        refine (visual_calls AA cA LA _ hIA (by omega) V HV).mono ?_
        rintro e w2 ⟨A2, c2, rfl, hI2, hb2⟩
        go_wp2_with fail
        refine (visual_calls AB cB LB _ (hIB.on hb2) hB100 W HW).mono ?_
        rintro e w3 ⟨A3, c3, rfl, hI3, hb3⟩
        go_wp2_with fail
        refine (logical_calls AA cA LA _ ((hIA.on hb2).on hb3) (by omega) V HV).mono ?_
        rintro e w4 ⟨A4, c4, U, rfl, hU, hI4, hb4⟩
        have hd3 : ((U.length : Int) != (LA.length : Int)) = false := by simp [hU.1, HVl.out]
        have HU := Lib.hid hU
        clear hU
        have hb5 := Below.then_ (Below.then_ (Below.then_ hb hb2) hb3) hb4
        have hJV := (hI2.ints.on hb3).on hb4
        have hJW := hI3.ints.on hb4
        have hJU := hI4.ints
        have hJA := ((hIA.on hb2).on hb3).on hb4
        clear hI2 hI3 hI4 hIA hIB hb hb2 hb3 hb4
        go_wp2_with fail
        go_loopw [9] (fun i wr => ∃ k : Nat, i = .int .i64 k ∧ k ≤ V.length ∧ ∃ n, wr = w4.drewN n) (fun i _ => V.length - (intOf i).toNat)
        case atStart => exact ⟨0, rfl, Nat.zero_le _, 0, rfl⟩
        case round =>
          obtain ⟨k, rfl, hk, n, rfl⟩ := hrel
          by_cases hlt : k < V.length
          · obtain ⟨b2, off2, x, rfl, hlb2, hx, hc2⟩ := hJV.at_ hlt
            obtain ⟨j, hj⟩ : ∃ j, j = W.length - 1 - k := ⟨_, rfl⟩
            have hWV2 : W.length = V.length := by rw [HWl.out, HVl.out]
            have hjW : j < W.length := by omega
            obtain ⟨b3, off3, y, rfl, hlb3, hy, hc3⟩ := hJW.at_ hjW
            have hxy : x = y := by
              rw [HWV.out, List.getElem?_reverse (by omega), show V.length - 1 - j = k from by omega, hx] at hy
              injection hy
            subst hxy
            have hV30 : V.length ≤ 30 := by rw [HVl.out]; exact hA30
            have hW30 : W.length ≤ 30 := by rw [HWl.out]; exact hA30
            have hw1 : IntKind.i64.wrap ((W.length : Int) - 1) = (W.length : Int) - 1 := IntWalk.i64_in _ (by omega)
            have hw2 : IntKind.i64.wrap ((W.length : Int) - 1 - k) = (j : Int) := by rw [IntWalk.i64_in _ (by omega)]; omega
            have hd4 : (x != x) = false := by simp
            have hki : (k : Int) < (V.length : Int) := by omega
            have hji : (j : Int) < (W.length : Int) := by omega
            have HJ := Lib.hid hj
            clear hx hy hj hWV2
            go_wp2
            go_quiet (fail)
            clear hw1 hw2
            go_wp2
            have hkA : k < LA.length := by rw [← HVl.out]; exact hlt
            by_cases hk0 : k = 0
            · have hg : decide (0 < k) = false := decide_eq_false (by omega)
              clear hk0
              go_quiet (fail)
              go_wp2
              go_roundw
              case rel => exact ⟨k + 1, by go_num, by omega, _, rfl⟩
              case measure => simp [intOf]; omega
            · obtain ⟨k1, hk1⟩ : ∃ k1, k = k1 + 1 := ⟨k - 1, by omega⟩
              have hw3 : IntKind.i64.wrap ((k : Int) - 1) = (k1 : Int) := by rw [IntWalk.i64_in _ (by omega)]; omega
              have hg : 0 < k := by omega
              have hk1A : k1 < LA.length := by omega
              have hki2 : (k : Int) < (LA.length : Int) := by omega
              have hki3 : (k1 : Int) < (LA.length : Int) := by omega
              obtain ⟨b5, off5, p, rfl, hlb5, hp, hc5⟩ := hJA.at_ hkA
              obtain ⟨b6, off6, q, hAA, hlb6, hq, hc6⟩ := hJA.at_ hk1A
              injection hAA with hAA
              injection hAA with e1 e2 _
              rw [← e1, ← e2] at hc6
              have HP := Lib.hid hp
              have HQ := Lib.hid hq
              have HK1 := Lib.hid hk1
              have hp0 := (HAL.out p (List.mem_of_getElem? hp)).1
              have hp1 := (HAL.out p (List.mem_of_getElem? hp)).2
              clear hp hq e1 e2 hk1 hk0
              by_cases hpq : p = q
              · have hd5 : (p == q) = true := by simpa using hpq
                subst hpq
                have hUl : U.length = LA.length := by rw [HU.out.1, HVl.out]
                obtain ⟨b7, off7, u, rfl, hlb7, hu, hc7⟩ := hJU.at_ (k := k) (by rw [hUl]; exact hkA)
                obtain ⟨b8, off8, v, hA8, hlb8, hv, hc8⟩ := hJU.at_ (k := k1) (by rw [hUl]; exact hk1A)
                injection hA8 with hA8
                injection hA8 with e1 e2 _
                rw [← e1, ← e2] at hc8
                have hUk : (k : Int) < (U.length : Int) := by omega
                have hUk1 : (k1 : Int) < (U.length : Int) := by omega
                have hnear := near_law LA U k1 p u v hp0 hp1 (by rw [← HK1.out]; exact HP.out) HQ.out (by have h := HU.out; rw [HV.out] at h; exact h) (by rw [← HK1.out]; exact hu) hv
                obtain ⟨d, hd⟩ : ∃ d, d = u - v := ⟨_, rfl⟩
                have hw4 : IntKind.i64.wrap (u - v) = d := by rw [IntWalk.i64_in _ (by omega), hd]
                have hw5 : p.tmod 2 = p % 2 := Int.tmod_eq_emod_of_nonneg hp0
                obtain ⟨r, hr⟩ : ∃ r, r = p % 2 := ⟨_, rfl⟩
                rw [← hr] at hw5 hnear
                have hw6 : IntKind.i64.wrap (2 * r) = 2 * r := IntWalk.i64_in _ (by omega)
                have hw7 : IntKind.i64.wrap (1 - 2 * r) = d := by rw [IntWalk.i64_in _ (by omega)]; omega
                have hd6 : (d != d) = false := by simp
                have HD := Lib.hid hd
                have HR := Lib.hid hr
                clear hu hv e1 e2 hUl hnear hd hr
                go_quiet (fail)
                clear hw3 hw4 hw5 hw6 hw7
                go_wp2
                go_roundw
                case rel => exact ⟨k + 1, by go_num, by omega, _, rfl⟩
                case measure => simp [intOf]; omega
              · have hd5 : (p == q) = false := by simpa using hpq
                go_quiet (fail)
                clear hw3
                go_wp2
                go_roundw
                case rel => exact ⟨k + 1, by go_num, by omega, _, rfl⟩
                case measure => simp [intOf]; omega
          · go_wp2
            go_ret
            exact ⟨rfl, below_drewN hb5 _⟩

set_option maxRecDepth 100000 in
theorem lifted (os : Os) (started : os.Started) (H : Type) (enc : TypeId × Value → H) :
    ReturnsInHanded {} Try.checked os 6 .any (Rows.reorderRaisedSpec.pre6 enc Try.prog Try.f6 Rows.reorderRaisedRow.domain false) (Rows.reorderRaisedSpec.post enc Try.prog Try.f6 false true false false) := by
  refine returnsInHanded_of_change (C := Try.checked) own started (by kernel_rfl) Try.func6
    (ChangeSpec.witness6 (enc := enc) (C := Try.checked) false ⟨#[], #[.slice none 0 0], []⟩ 8 (by kernel_rfl) (by kernel_rfl) (by kernel_rfl) (by kernel_rfl)) ?_
  intro W base args ds gs before hval0 hW hcnd _
  have hval : ∀ (j : Nat) t v, Try.f6.params[j]? = some t → args[j]? = some v → Value.okWide Try.prog W .any base t v := hval0
  have hW' := hW
  obtain ⟨p, q, hA0, hV, rfl, hfz, hnd⟩ := hW
  have hA : DataW.TrodAll enc Try.prog W 0 (fun _ => true) true Try.f6.params.toList args.toList ds p := hA0
  rw [Try.params6] at hA hval
  obtain ⟨v0, vs0, d0, ds0, p0, q0, hargs, rfl, rfl, h0, r0⟩ := trodAll_cons hA
  obtain ⟨rfl, rfl, rfl⟩ := trodAll_nil r0
  obtain rfl : args = #[v0] := by cases args; simp_all
  obtain ⟨rfl, rfl⟩ := trodVars_none hV
  obtain ⟨a0, len0, cap0, rfl⟩ := okWide_slice Try.underlying22 (hval 0 22 v0 rfl rfl)
  have k0 := h0
  have lt0 : ∀ x ∈ p0, x.block < W.heap.size := by obtain ⟨m, hm⟩ := k0; exact DataW.trod_lt m _ _ _ hm
  obtain ⟨z0, w0⟩ : ∃ zs, IsRow .i64 W a0 len0 cap0 zs := by
    obtain ⟨fuel, hf⟩ := h0
    rcases open_ints Try.underlying22 Try.underlying3 (by kernel_rfl) hf with ⟨hcs, _⟩ | ⟨x, l, c, zs, hcs, _, hl, hm, hz, _, hcell, hwz⟩
    · simp [Value.cells] at hcs
      obtain ⟨rfl, rfl, rfl⟩ := hcs
      exact ⟨[], .inl ⟨rfl, rfl, rfl, rfl⟩⟩
    · simp [Value.cells] at hcs
      obtain ⟨rfl, rfl, rfl⟩ := hcs
      exact ⟨zs, .inr ⟨_, rfl, hl, hm, by simpa using hz, hcell, hwz⟩⟩
  clear hA0 hval0
  refine (walk a0 len0 cap0 z0 W w0).mono fun e W' ⟨he, bel⟩ => ?_
  subst he
  exact ⟨_, rfl, _, _, _, [], _, [], hW', trodAll_mk1 (shut_bool Try.underlying4 _), (trodAll_cons_mk (Below.trod laidOut (by kernel_rfl) (of_decide_eq_true (by kernel_rfl)) k0 bel lt0) trodAll_mk0), rfl, bel.frame _, fun h => by cases h⟩

theorem over : Rows.reorderRaisedRow.holds Try.pinned (OpenSpec.ofChange Rows.reorderRaisedSpec) :=
  OpenClaim.holds_of_wide 6 Try.f6 rfl rfl rfl rfl rfl rfl rfl ⟨rfl, rfl, rfl, rfl, rfl⟩ rfl rfl rfl rfl rfl (by kernel_rfl) Try.func6 (by kernel_rfl)
    (of_decide_eq_true (by kernel_rfl)) (by unfold Func.isWrapper; first | (rw [if_pos (by decide +kernel)]; kernel_rfl) | (rw [if_neg (by decide +kernel)]; exact ⟨rfl, rfl⟩))
    (fun os started H enc _ => lifted os started H enc)

theorem proved : Rows.ReorderRaisedSaid := over
#print axioms proved
end Go.Proofs.Ytlcijmllffablaa.reorderRaised
