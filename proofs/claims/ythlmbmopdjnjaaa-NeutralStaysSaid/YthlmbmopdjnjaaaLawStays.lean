/-
  NeutralStays: behind the resolution no class is neutral, resolving again changes nothing, all other classes are as they were (of more than 200 classes the law says nothing). No condition.
  The frame follows the shells of the kit's program proof-skeleton.mjs, for parameters that it does not serve.
-/
import Derived.Test.YthlmbmopdjnjaaaAlive
import Derived.Test.YthlmbmopdjnjaaaRows
import Derived.WalkKit
import Derived.ProofKit
import Derived.OpenShut
import Derived.ShutString
import Derived.ChangeOld
import Derived.Below
namespace Go.Proofs.Ythlmbmopdjnjaaa.neutralStays
open Go.ChangeShapes Go.WideShapes Go.ChangeAt Go.RowKit
open Go.ChangeMaps (open_string shut_string)
set_option linter.unusedVariables false

theorem own : ownKnob Try.prog.godebug = none := by kernel_rfl
theorem laidOut : laidOutB Try.prog = true := by kernel_rfl

/-- a slice of ints that came in: nil, or it leads to a row of 'cap' cells, of which the first 'len' are its elements -/
def IsRow (k : IntKind) (w : World) (a : Option Addr) (len cap : Nat) (zs : List Int) : Prop :=
  (a = none ∧ len = 0 ∧ cap = 0 ∧ zs = []) ∨
  ∃ x, a = some x ∧ len ≤ cap ∧ cap ≤ maxLen ∧ zs.length = cap ∧ (∀ i, i < zs.length → w.cell? (x.add i) = some (.int k (zs.getD i 0))) ∧ ∀ n ∈ zs, (Lit.int k n).wf = true

theorem block_lt {w : World} {x : Addr} {v : Value} (h : w.cell? x = some v) : x.block < w.heap.size := World.block_lt_of_cell? w x h
/-- what came in, as a list -/
theorem view {w : World} {a : Option Addr} {len cap : Nat} {zs : List Int} (h : IsRow .i64 w a len cap zs) :
    ∃ l : List Int, len = l.length ∧ Ints w w.heap.size a l ∧ ∀ x ∈ l, -9223372036854775808 ≤ x ∧ x ≤ 9223372036854775807 := by
  rcases h with ⟨rfl, rfl, rfl, rfl⟩ | ⟨x, rfl, hl, hm, hz, hcell, hwz⟩
  · exact ⟨[], rfl, .inl rfl, by simp⟩
  · refine ⟨zs.take len, by rw [List.length_take]; omega, ?_, fun y hy => bounds_i64 (hwz y (List.mem_of_mem_take hy))⟩
    rcases Nat.eq_zero_or_pos len with h0 | h0
    · subst h0
      exact .inl (by simp)
    · obtain ⟨b, off, spot⟩ := x
      have hc := hcell 0 (by omega)
      have hspot : spot = none := by simpa [Addr.add] using World.cell?_spot hc
      subst hspot
      refine .inr ⟨b, off, rfl, by simpa [Addr.add] using block_lt hc, fun k y hy => ?_⟩
      rw [List.getElem?_take] at hy
      split at hy
      · have hk := hcell k (by omega)
        rw [List.getD_eq_getElem?_getD, hy] at hk
        simpa [Addr.add_lit] using hk
      · cases hy

section
variable {H : Type} {enc : TypeId × Value → H} {P : Program} {w : World} {base : Nat} {spare : Nat → Bool} {held : Bool}
/-- an array of two ints that came in by value -/
theorem open_arr2 {r : Reach} {b0 : Nat} {t e : TypeId} {v : Value} {d : DataW H} {p : List MemPlace} (ht : P.underlying t = some (.array 2 e)) (he : P.underlying e = some (.int .i64)) (hce : P.cellsOf e = 1) (hct : P.cellsOf t = 2)
    (hv : Value.okWide P w r b0 t v) (h : DataW.Trod enc P w base spare held t v d p) : ∃ x y : Int, v = .agg #[.int .i64 x, .int .i64 y] ∧ (Lit.int .i64 x).wf = true ∧ (Lit.int .i64 y).wf = true := by
  have hv' : ∃ cs, v = .agg cs ∧ cs.size = P.cellsOf t := by
    simp only [Value.okWide, ht] at hv
    obtain ⟨cs, h1, h2, _⟩ := hv
    exact ⟨cs, h1, h2⟩
  obtain ⟨cs, rfl, hs⟩ := hv'
  rw [hct] at hs
  obtain ⟨l⟩ := cs
  match l, hs with
  | [c0, c1], _ =>
    obtain ⟨fuel, hf⟩ := h
    obtain ⟨xs, m, _, _, _, hl, hel⟩ := DataW.trod_array ht hf
    match xs, hl with
    | [y0, y1], _ =>
      have h0 := hel 0 (by omega)
      have h1 := hel 1 (by omega)
      rw [hce] at h0 h1
      simp [Value.cells] at h0 h1
      obtain ⟨x, e0, _, wx⟩ := DataW.trod_int he h0
      obtain ⟨y, e1, _, wy⟩ := DataW.trod_int he h1
      simp at e0 e1
      subst e0 e1
      exact ⟨x, y, rfl, wx, wy⟩
end

theorem quiet_left {P : Program} {f : FuncId} {args : Array Value} {w : World} {n : Nat} {v : Value}
    (h : Calls P f args (w.drewN n) fun e w' => e = .returned v ∧ w.drewN n = w') : Calls P f args (w.drewN n) fun e w'' => e = .returned v ∧ ∃ m, w'' = w.drewN m :=
  h.mono fun _ _ ⟨he, hm⟩ => ⟨he, n, hm.symm⟩
theorem quiet_add_left {P : Program} {f : FuncId} {args : Array Value} {w : World} {a n : Nat} {v : Value}
    (h : Calls P f args (w.drewN (a + n)) fun e w' => e = .returned v ∧ w.drewN (a + n) = w') :
    Calls P f args (w.drewN (a + n)) fun e w'' => e = .returned v ∧ ∃ m, w'' = w.drewN (a + m) :=
  h.mono fun _ _ ⟨he, hm⟩ => ⟨he, n, hm.symm⟩
theorem prev_12 (l : List Int) (s : Int) (hs : s = 1 ∨ s = 2) : ∀ i, prevW l s i = 1 ∨ prevW l s i = 2
  | 0 => hs
  | i + 1 => by
    rw [prevW]
    split
    · exact prev_12 l s hs i
    · unfold wy; split <;> simp
theorem next_12 (e : Int) (he : e = 1 ∨ e = 2) : ∀ l, nextW e l = 1 ∨ nextW e l = 2
  | [] => he
  | c :: r => by
    rw [nextW]
    split
    · exact next_12 e he r
    · unfold wy; split <;> simp
theorem val_12 (l : List Int) (lv sos eos x : Int) (i : Nat) (hx : l[i]? = some x) : (neu x = false ∧ valAt l lv sos eos i = x) ∨ (neu x = true ∧ (valAt l lv sos eos i = 1 ∨ valAt l lv sos eos i = 2)) := by
  cases h : neu x with
  | false => exact .inl ⟨rfl, val_strong lv sos eos hx h⟩
  | true =>
    refine .inr ⟨rfl, ?_⟩
    rw [valAt, getD_of hx, h, if_pos rfl, mix]
    split
    · exact prev_12 l _ (by unfold en; split <;> simp) i
    · unfold emb; split <;> simp
theorem neuL_strong (l : List Int) (lv sos eos : Int) : ∀ x ∈ neuL l lv sos eos, neu x = false := by
  intro x hx
  obtain ⟨i, hi⟩ := List.getElem?_of_mem hx
  have hil : i < l.length := by
    have := (List.getElem?_eq_some_iff.1 hi).1
    rwa [neuL_length] at this
  rw [neuL_get _ _ _ _ _ hil] at hi
  injection hi with hi
  rcases val_12 l lv sos eos l[i] i (List.getElem?_eq_getElem hil) with ⟨h1, h2⟩ | ⟨_, h2 | h2⟩
  · rw [← hi, h2]; exact h1
  · rw [← hi, h2]; decide
  · rw [← hi, h2]; decide
theorem neuL_fix (L : List Int) (lv sos eos : Int) (h : ∀ x ∈ L, neu x = false) : neuL L lv sos eos = L := by
  apply List.ext_getElem?
  intro i
  by_cases hi : i < L.length
  · rw [neuL_get _ _ _ _ _ hi, val_strong lv sos eos (List.getElem?_eq_getElem hi) (h _ (List.getElem_mem hi)), List.getElem?_eq_getElem hi]
  · rw [List.getElem?_eq_none (by rw [neuL_length]; omega), List.getElem?_eq_none (by omega)]

set_option maxHeartbeats 1000000 in
set_option maxRecDepth 100000 in
theorem walk (a0 : Option Addr) (len0 cap0 : Nat) (z0 : List Int) (a1 : Int) (x2_0 x2_1 : Int) (w : World) (w0 : IsRow .i64 w a0 len0 cap0 z0) (w1 : (Lit.int .i64 a1).wf = true) (w_x2_0 : (Lit.int .i64 x2_0).wf = true) (w_x2_1 : (Lit.int .i64 x2_1).wf = true) :
    Calls Try.prog 4 #[.slice a0 len0 cap0, .int .i64 a1, .agg #[.int .i64 x2_0, .int .i64 x2_1]] w fun e w' => e = .returned (.bool true) ∧ Below w.heap.size w w' := by
  obtain ⟨l, rfl, hI, _⟩ := view w0
  have hIb := hI.alloc (Nat.le_refl _) (.cells #[.int .i64 x2_0, .int .i64 x2_1] 23)
  have hbb : Below w.heap.size w (w.alloc (.cells #[.int .i64 x2_0, .int .i64 x2_1] 23)) := (Below.refl _ _).alloc (Nat.le_refl _) _
  have hIb2 : Ints (w.alloc (.cells #[.int .i64 x2_0, .int .i64 x2_1] 23)) (w.alloc (.cells #[.int .i64 x2_0, .int .i64 x2_1] 23)).heap.size a0 l := hIb.more hbb.size
  have hbx : Blk (w.alloc (.cells #[.int .i64 x2_0, .int .i64 x2_1] 23)) w.heap.size 23 [.int .i64 x2_0, .int .i64 x2_1] := Blk.new w 23 _
  by_cases hn : 200 < l.length
  · have hn' : (200 : Int) < (l.length : Int) := by omega
    clear hIb hIb2 hbx hbb
    go_enter Try.func4, Try.ntmps4
    go_wp2_with fail
    refine (alive_calls _).mono ?_
    rintro e w1 ⟨rfl, hb⟩
    go_wp2_with fail
    go_ret
    exact ⟨rfl, ((Below.refl _ _).alloc (Nat.le_refl _) _).trans (hb.mono (by simp))⟩
  · have hn' : ¬ (200 : Int) < (l.length : Int) := by omega
    have hl : l.length ≤ 200 := by omega
    obtain ⟨X, hX⟩ : ∃ X, X = neuL l a1 x2_0 x2_1 := ⟨_, rfl⟩
    have hXl : X.length = l.length := by rw [hX, neuL_length]
    have hst : ∀ x ∈ X, neu x = false := by rw [hX]; exact neuL_strong _ _ _ _
    have hfix := neuL_fix X a1 x2_0 x2_1 hst
    have hv : ∀ (i : Nat) (x : Int), l[i]? = some x → ∃ y, X[i]? = some y ∧ ((neu x = false ∧ y = x) ∨ (neu x = true ∧ (y = 1 ∨ y = 2))) := by
      intro i x hx
      refine ⟨_, by rw [hX]; exact neuL_get _ _ _ _ _ (List.getElem?_eq_some_iff.1 hx).1, val_12 _ _ _ _ _ _ hx⟩
    have HX := Lib.hid hX
    have HXl := Lib.hid hXl
    have HFX := Lib.hid hfix
    have HV := Lib.hid hv
    have hd1 : ((X.length : Int) != (l.length : Int)) = false := by simp [hXl]
    have hX2 : X.length ≤ 200 := by omega
    clear hX hXl hst hfix hv hn hIb
    go_enter Try.func4, Try.ntmps4
    go_wp2_with fail
    generalize w.alloc (.cells #[.int .i64 x2_0, .int .i64 x2_1] 23) = wb at *
    refine (neutral_calls a0 cap0 l a1 x2_0 x2_1 _ hIb2 hl).mono ?_
    rintro e w1 ⟨v1, rfl, hO1, hb1⟩
    rw [← HX.out, ← HXl.out] at hO1
    obtain ⟨A1, c1, hv1, hI1⟩ := own_ints hO1
    rw [hv1]
    have hbx1 := hbx.on hb1
    have hwb := hbx.lt
    have hIl1 := hIb2.on hb1
    have hbw := hbb.trans (hb1.mono (Nat.le_of_lt hwb))
    have e0 : w1.cell? ⟨w.heap.size, 0, none⟩ = some (.int .i64 x2_0) := by rw [hbx1.cell]; rfl
    have e1 : w1.cell? ⟨w.heap.size, 1, none⟩ = some (.int .i64 x2_1) := by rw [hbx1.cell]; rfl
    clear hO1 hv1 hb1 hbx hbx1 hIb2 hbb
    go_wp2_with fail
    refine (neutral_calls A1 c1 X a1 x2_0 x2_1 _ hI1 hX2).mono ?_
    rintro e w2 ⟨v2, rfl, hO2, hb2⟩
    rw [HFX.out] at hO2
    obtain ⟨A2, c2, hv2, hI2⟩ := own_ints hO2
    rw [hv2]
    clear hO2 hv2 e0 e1
    go_wp2_with fail
    refine (same_below A2 A1 c2 c1 X X _ hI2 (hI1.on hb2) (by omega) true (by unfold Hid; simp)).mono ?_
    rintro e w3 ⟨rfl, hb3⟩
    have hIX := (hI1.on hb2).on hb3
    have hIL := (hIl1.on hb2).on hb3
    have hbw3 := Below.then_ (hbw.trans (hb2.mono hbw.size)) hb3
    clear hI1 hI2 hIl1 hb2 hb3 hbw
    go_wp2_with fail
    go_loopw [8] (fun a wr => ∃ k : Nat, a = .int .i64 k ∧ k ≤ l.length ∧ ∃ n, wr = w3.drewN n) (fun a _ => l.length - (intOf a).toNat)
    case atStart => exact ⟨0, rfl, Nat.zero_le _, 0, rfl⟩
    case round =>
      obtain ⟨k, rfl, hk, n, rfl⟩ := hrel
      by_cases hlt : k < l.length
      · obtain ⟨b, off, x, rfl, hlb, hx, hc⟩ := hIL.at_ hlt
        obtain ⟨y, hy, hxy⟩ := HV.out k x hx
        have hXi : k < X.length := by rw [HXl.out]; exact hlt
        obtain ⟨b2, off2, y', rfl, hlb2, hy', hc2⟩ := hIX.at_ hXi
        rw [hy] at hy'
        injection hy' with hy'
        subst hy'
        have hki : (k : Int) < (l.length : Int) := by omega
        have hkX : (k : Int) < (X.length : Int) := by omega
        clear hx hy
        rcases hxy with ⟨hn0, rfl⟩ | ⟨hn0, rfl | rfl⟩
        · have HN0 := Lib.hid hn0
          have hdd : (y != y) = false := by simp
          clear hn0
          go_wp2_with fail
          go_quiet ((go_at_call 13; first | exact quiet_left (neu1_calls _ _ HN0 _) | exact quiet_add_left (neu1_calls _ _ HN0 _)))
          go_wp2_with fail
          go_roundw
          case rel => exact ⟨k + 1, by go_num, by omega, _, rfl⟩
          case measure => simp [intOf]; omega
        · have HN0 := Lib.hid hn0
          have HN1 : Hid (neu 1 = false) := by unfold Hid; decide
          clear hn0
          go_wp2_with fail
          go_quiet ((go_at_call 13; first | (with_reducible exact quiet_left (neu1_calls 1 _ HN1 _)) | (with_reducible exact quiet_add_left (neu1_calls 1 _ HN1 _)) | (with_reducible exact quiet_left (neu1_calls x _ HN0 _)) | (with_reducible exact quiet_add_left (neu1_calls x _ HN0 _))))
          go_wp2_with fail
          go_roundw
          case rel => exact ⟨k + 1, by go_num, by omega, _, rfl⟩
          case measure => simp [intOf]; omega
        · have HN0 := Lib.hid hn0
          have HN1 : Hid (neu 2 = false) := by unfold Hid; decide
          clear hn0
          go_wp2_with fail
          go_quiet ((go_at_call 13; first | (with_reducible exact quiet_left (neu1_calls 2 _ HN1 _)) | (with_reducible exact quiet_add_left (neu1_calls 2 _ HN1 _)) | (with_reducible exact quiet_left (neu1_calls x _ HN0 _)) | (with_reducible exact quiet_add_left (neu1_calls x _ HN0 _))))
          go_wp2_with fail
          go_roundw
          case rel => exact ⟨k + 1, by go_num, by omega, _, rfl⟩
          case measure => simp [intOf]; omega
      · have hkX : ¬ k < X.length := by rw [HXl.out]; exact hlt
        go_wp2_with fail
        refine (alive_calls _).mono ?_
        rintro e w4 ⟨rfl, hb5⟩
        go_wp2_with fail
        go_ret
        exact ⟨rfl, Below.then_ (below_drewN hbw3 n) hb5⟩

set_option maxRecDepth 100000 in
theorem lifted (os : Os) (started : os.Started) (H : Type) (enc : TypeId × Value → H) :
    ReturnsInHanded {} Try.checked os 4 .any (Rows.neutralStaysSpec.pre6 enc Try.prog Try.f4 Rows.neutralStaysRow.domain false) (Rows.neutralStaysSpec.post enc Try.prog Try.f4 false true false false) := by
  refine returnsInHanded_of_change (C := Try.checked) own started (by kernel_rfl) Try.func4
    (ChangeSpec.witness6 (enc := enc) (C := Try.checked) false ⟨#[], #[.slice none 0 0, .int .i64 0, .agg #[.int .i64 0, .int .i64 0]], []⟩ 8 (by kernel_rfl) (by kernel_rfl) (by kernel_rfl) (by kernel_rfl)) ?_
  intro W base args ds gs before hval0 hW hcnd _
  have hval : ∀ (j : Nat) t v, Try.f4.params[j]? = some t → args[j]? = some v → Value.okWide Try.prog W .any base t v := hval0
  have hW' := hW
  obtain ⟨p, q, hA0, hV, rfl, hfz, hnd⟩ := hW
  have hA : DataW.TrodAll enc Try.prog W 0 (fun _ => true) true Try.f4.params.toList args.toList ds p := hA0
  rw [Try.params4] at hA hval
  obtain ⟨v0, vs0, d0, ds0, p0, q0, hargs, rfl, rfl, h0, r0⟩ := trodAll_cons hA
  obtain ⟨v1, vs1, d1, ds1, p1, q1, rfl, rfl, rfl, h1, r1⟩ := trodAll_cons r0
  obtain ⟨v2, vs2, d2, ds2, p2, q2, rfl, rfl, rfl, h2, r2⟩ := trodAll_cons r1
  obtain ⟨rfl, rfl, rfl⟩ := trodAll_nil r2
  obtain rfl : args = #[v0, v1, v2] := by cases args; simp_all
  obtain ⟨rfl, rfl⟩ := trodVars_none hV
  obtain ⟨a0, len0, cap0, rfl⟩ := okWide_slice Try.underlying22 (hval 0 22 v0 rfl rfl)
  have k0 := h0
  have lt0 : ∀ x ∈ p0, x.block < W.heap.size := by obtain ⟨m, hm⟩ := k0; exact DataW.trod_lt m _ _ _ hm
  obtain ⟨z0, w0⟩ : ∃ zs, IsRow .i64 W a0 len0 cap0 zs := by
    obtain ⟨fuel, hf⟩ := h0
    rcases open_ints Try.underlying22 Try.underlying3 (by kernel_rfl) hf with ⟨hcs, _⟩ | ⟨x, l, c, zs, hcs, _, hl, hm, hz, _, hcell, hwz⟩
    · simp [Value.cells] at hcs
      obtain ⟨rfl, rfl, rfl⟩ := hcs
      exact ⟨[], .inl ⟨rfl, rfl, rfl, rfl⟩⟩
    · simp [Value.cells] at hcs
      obtain ⟨rfl, rfl, rfl⟩ := hcs
      exact ⟨zs, .inr ⟨_, rfl, hl, hm, by simpa using hz, hcell, hwz⟩⟩
  obtain ⟨a1, rfl, rfl, rfl, w1⟩ := open_int Try.underlying3 (hval 1 3 v1 rfl rfl) h1
  have k2 := h2
  have lt2 : ∀ x ∈ p2, x.block < W.heap.size := by obtain ⟨m, hm⟩ := k2; exact DataW.trod_lt m _ _ _ hm
  obtain ⟨x2_0, x2_1, rfl, w_x2_0, w_x2_1⟩ := open_arr2 Try.underlying23 Try.underlying3 (by kernel_rfl) (by kernel_rfl) (hval 2 23 v2 rfl rfl) h2
  clear hA0 hval0
  refine (walk a0 len0 cap0 z0 a1 x2_0 x2_1 W w0 w1 w_x2_0 w_x2_1).mono fun e W' ⟨he, bel⟩ => ?_
  subst he
  exact ⟨_, rfl, _, _, _, [], _, [], hW', trodAll_mk1 (shut_bool Try.underlying4 _), (trodAll_cons_mk (Below.trod laidOut (by kernel_rfl) (of_decide_eq_true (by kernel_rfl)) k0 bel lt0) (trodAll_cons_mk (shut_int Try.underlying3 w1) (trodAll_cons_mk (Below.trod laidOut (by kernel_rfl) (of_decide_eq_true (by kernel_rfl)) k2 bel lt2) trodAll_mk0))), rfl, bel.frame _, fun h => by cases h⟩

theorem over : Rows.neutralStaysRow.holds Try.pinned (OpenSpec.ofChange Rows.neutralStaysSpec) :=
  OpenClaim.holds_of_wide 4 Try.f4 rfl rfl rfl rfl rfl rfl rfl ⟨rfl, rfl, rfl, rfl, rfl⟩ rfl rfl rfl rfl rfl (by kernel_rfl) Try.func4 (by kernel_rfl)
    (of_decide_eq_true (by kernel_rfl)) (by unfold Func.isWrapper; first | (rw [if_pos (by decide +kernel)]; kernel_rfl) | (rw [if_neg (by decide +kernel)]; exact ⟨rfl, rfl⟩))
    (fun os started H enc _ => lifted os started H enc)

theorem proved : Rows.NeutralStaysSaid := over
#print axioms proved
end Go.Proofs.Ythlmbmopdjnjaaa.neutralStays
