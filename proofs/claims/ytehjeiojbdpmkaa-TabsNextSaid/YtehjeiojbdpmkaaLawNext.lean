/-
  TabsNext: the program and the reference agree about the next tab behind any place and where text behind it begins. No condition.
  The frame follows the shells of the kit's program proof-skeleton.mjs, for parameters that it does not serve.
-/
import Derived.Test.YtehjeiojbdpmkaaOpen
import Derived.Test.YtehjeiojbdpmkaaCheck
import Derived.Test.YtehjeiojbdpmkaaRows
import Derived.WalkKit
import Derived.ProofKit
import Derived.OpenShut
import Derived.ShutString
import Derived.ChangeOld
import Derived.Below
import Derived.Deep.RegionHeld3
import Derived.Deep.DeepCutAuto
namespace Go.Proofs.Ytehjeiojbdpmkaa.tabsNext
open Go.ChangeShapes Go.WideShapes Go.ChangeAt Go.RowKit
open Go.ChangeMaps (open_string shut_string)
set_option linter.unusedVariables false

theorem own : ownKnob Try.prog.godebug = none := by kernel_rfl
theorem laidOut : laidOutB Try.prog = true := by kernel_rfl

theorem next_gt (l : List (Int × Int)) (every x : Int) : x < (nextOf l every x).1 := by
  unfold nextOf
  cases h : l.find? fun t => decide (x < t.1) with
  | some t => simpa using List.find?_some h
  | none =>
    dsimp only
    have he1 : 1 ≤ stepOf every := by unfold stepOf; split <;> omega
    have := prod_bd (max x 0) (stepOf every) (by omega) he1
    omega
theorem near_of {n : Int} (h : nearB n = true) : -1099511627776 ≤ n ∧ n ≤ 1099511627776 := of_decide_eq_true h
def zz : List Value := [.int .i64 0, .int .i64 0]
theorem al1 (w : World) (o : Obj) : Below w.heap.size w (w.alloc o) := (Below.refl _ _).alloc (Nat.le_refl _) _
theorem al2 (w : World) (o o' : Obj) : Below w.heap.size w ((w.alloc o).alloc o') := (al1 w o).alloc (by simp) _
theorem zz1 (w : World) : Blk (w.alloc (.cells #[.int .i64 0, .int .i64 0] 29)) w.heap.size 29 zz := Blk.new w 29 zz
theorem zz2 (w : World) : Blk ((w.alloc (.cells #[.int .i64 0, .int .i64 0] 29)).alloc (.cells #[.int .i64 0, .int .i64 0] 29)) (w.heap.size + 1) 29 zz := by simpa using zz1 (w.alloc (.cells #[.int .i64 0, .int .i64 0] 29))
/-! a call that leaves what was there, behind no, one or two new tabs -/
section
variable {f : FuncId} {args : Array Value} {v : Value} {A : Option Addr} {l : List (Int × Int)}
def Serves (f : FuncId) (args : Array Value) (v : Value) (A : Option Addr) (l : List (Int × Int)) : Prop := ∀ W : World, Tabs W W.heap.size A l → Calls Try.prog f args W fun e w' => e = .returned v ∧ Below W.heap.size W w'
theorem serve0 (h : Serves f args v A l) (w : World) (hT : Tabs w w.heap.size A l) : Calls Try.prog f args w fun e w' => e = .returned v ∧ Below w.heap.size w w' := h w hT
theorem serve1 (h : Serves f args v A l) (w : World) (hT : Tabs w w.heap.size A l) : Calls Try.prog f args (w.alloc (.cells #[.int .i64 0, .int .i64 0] 29)) fun e w' => e = .returned v ∧ Below w.heap.size w w' ∧ Blk w' w.heap.size 29 zz :=
  (h _ (hT.on (al1 w _))).mono fun _ _ ⟨he, hb⟩ => ⟨he, Below.then_ (al1 w _) hb, (zz1 w).on hb⟩
theorem serve2 (h : Serves f args v A l) (w : World) (hT : Tabs w w.heap.size A l) : Calls Try.prog f args ((w.alloc (.cells #[.int .i64 0, .int .i64 0] 29)).alloc (.cells #[.int .i64 0, .int .i64 0] 29)) fun e w' => e = .returned v ∧ Below w.heap.size w w' ∧ Blk w' w.heap.size 29 zz ∧ Blk w' (w.heap.size + 1) 29 zz :=
  (h _ (hT.on (al2 w _ _))).mono fun _ _ ⟨he, hb⟩ => ⟨he, Below.then_ (al2 w _ _) hb, ((zz1 w).alloc _).on hb, (zz2 w).on hb⟩
theorem serveD0 (h : Serves f args v A l) (w : World) (hT : Tabs w w.heap.size A l) : Calls Try.prog f args w.drew fun e w' => e = .returned v ∧ Below w.heap.size w w' := (h w.drew hT).mono fun _ _ ⟨he, hz⟩ => ⟨he, hz.os, hz.tape, hz.output, hz.size, hz.block⟩
theorem serveD1 (h : Serves f args v A l) (w : World) (hT : Tabs w w.heap.size A l) : Calls Try.prog f args (w.alloc (.cells #[.int .i64 0, .int .i64 0] 29)).drew fun e w' => e = .returned v ∧ Below w.heap.size w w' ∧ Blk w' w.heap.size 29 zz :=
  (serve1 h w.drew hT).mono fun _ _ ⟨he, hz, hb⟩ => ⟨he, ⟨hz.os, hz.tape, hz.output, hz.size, hz.block⟩, hb⟩
theorem serveD2 (h : Serves f args v A l) (w : World) (hT : Tabs w w.heap.size A l) : Calls Try.prog f args ((w.alloc (.cells #[.int .i64 0, .int .i64 0] 29)).alloc (.cells #[.int .i64 0, .int .i64 0] 29)).drew fun e w' => e = .returned v ∧ Below w.heap.size w w' ∧ Blk w' w.heap.size 29 zz ∧ Blk w' (w.heap.size + 1) 29 zz :=
  (serve2 h w.drew hT).mono fun _ _ ⟨he, hz, hb⟩ => ⟨he, ⟨hz.os, hz.tape, hz.output, hz.size, hz.block⟩, hb⟩
end
/-- what the two calls leave: two tabs, in two blocks -/
def CutIs (wb : World) (g : Nat) (n0 n1 n2 a kd : Int) (s7 s8 : Value) (wx : World) : Prop :=
  ∃ g7 g8, s7 = .pointer (some ⟨g7, 0, none⟩) ∧ s8 = .pointer (some ⟨g8, 0, none⟩) ∧ Below wb.heap.size wb wx ∧ (wx.cell? ⟨g7, 0, none⟩ = some (.int .i64 a) ∧ wx.cell? ⟨g7, 1, none⟩ = some (.int .i64 kd)) ∧ (wx.cell? ⟨g8, 0, none⟩ = some (.int .i64 a) ∧ wx.cell? ⟨g8, 1, none⟩ = some (.int .i64 kd))

set_option maxHeartbeats 4000000 in
set_option maxRecDepth 100000 in
theorem walk (a0 : Option Addr) (len0 cap0 : Nat) (z0 : List (Int × Int)) (a1 : Int) (x2_0 x2_1 x2_2 : Int) (w : World) (w0 : IsRow2 w a0 len0 z0) (w1 : (Lit.int .i64 a1).wf = true) (w_x2_0 : (Lit.int .i64 x2_0).wf = true) (w_x2_1 : (Lit.int .i64 x2_1).wf = true) (w_x2_2 : (Lit.int .i64 x2_2).wf = true) :
    Calls Try.prog 3 #[.slice a0 len0 cap0, .int .i64 a1, .agg #[.int .i64 x2_0, .int .i64 x2_1, .int .i64 x2_2]] w fun e w' => e = .returned (.bool true) ∧ Below w.heap.size w w' := by
  obtain ⟨rfl, hm, hI, _⟩ := view2 w0
  have hbb : Below w.heap.size w (w.alloc (.cells #[.int .i64 x2_0, .int .i64 x2_1, .int .i64 x2_2] 23)) := al1 w _
  have hX : Blk (w.alloc (.cells #[.int .i64 x2_0, .int .i64 x2_1, .int .i64 x2_2] 23)) w.heap.size 23 [.int .i64 x2_0, .int .i64 x2_1, .int .i64 x2_2] := Blk.new w 23 _
  have hT : Tabs (w.alloc (.cells #[.int .i64 x2_0, .int .i64 x2_1, .int .i64 x2_2] 23)) (w.alloc (.cells #[.int .i64 x2_0, .int .i64 x2_1, .int .i64 x2_2] 23)).heap.size a0 z0 := hI.on hbb
  have e0 := hX.cell 0
  have e1 := hX.cell 1
  have e2 := hX.cell 2
  have g0 := hX.lt
  clear hX w0
  obtain ⟨v, hv⟩ := check_is z0
  obtain ⟨b1, k1⟩ : ∃ b, nearB a1 = b := ⟨_, rfl⟩
  obtain ⟨b2, k2⟩ : ∃ b, nearB x2_0 = b := ⟨_, rfl⟩
  obtain ⟨b3, k3⟩ : ∃ b, nearB x2_1 = b := ⟨_, rfl⟩
  obtain ⟨b4, k4⟩ : ∃ b, nearB x2_2 = b := ⟨_, rfl⟩
  have HV := Lib.hid hv
  have H1 := Lib.hid k1
  have H2 := Lib.hid k2
  have H3 := Lib.hid k3
  have H4 := Lib.hid k4
  clear k1 k2 k3 k4 hv
  by_cases hv0 : v = 0
  · subst hv0
    cases b1 with
    | false =>
      go_enter Try.func3, Try.ntmps3
      go_wp2_with fail
      generalize w.alloc (.cells #[.int .i64 x2_0, .int .i64 x2_1, .int .i64 x2_2] 23) = wb at *
      refine (refCheck_calls a0 cap0 z0 _ hT hm _ HV).mono ?_
      rintro e w1 ⟨rfl, nd, rfl⟩
      have hT1 : Tabs (wb.drewN nd) (wb.drewN nd).heap.size a0 z0 := hT
      have hbd : Below w.heap.size w (wb.drewN nd) := below_drewN hbb nd
      have i0 : (wb.drewN nd).cell? ⟨w.heap.size, 0, none⟩ = some (.int .i64 x2_0) := e0
      have i1 : (wb.drewN nd).cell? ⟨w.heap.size, 1, none⟩ = some (.int .i64 x2_1) := e1
      have i2 : (wb.drewN nd).cell? ⟨w.heap.size, 2, none⟩ = some (.int .i64 x2_2) := e2
      have gd : w.heap.size < (wb.drewN nd).heap.size := g0
      generalize wb.drewN nd = wd at *
      clear hT hbb e0 e1 e2 g0
      go_wp2_with (go_at_call 8; refine (near_calls _ _ (by first | exact H1 | exact H2 | exact H3 | exact H4) _).mono ?_; rintro e w1 ⟨rfl, rfl⟩)
      refine (alive_calls _).mono ?_
      rintro e w1 ⟨rfl, hb1⟩
      go_wp2_with fail
      go_ret
      exact ⟨rfl, Below.then_ hbd hb1⟩
    | true =>
      cases b2 with
      | false =>
        go_enter Try.func3, Try.ntmps3
        go_wp2_with fail
        generalize w.alloc (.cells #[.int .i64 x2_0, .int .i64 x2_1, .int .i64 x2_2] 23) = wb at *
        refine (refCheck_calls a0 cap0 z0 _ hT hm _ HV).mono ?_
        rintro e w1 ⟨rfl, nd, rfl⟩
        have hT1 : Tabs (wb.drewN nd) (wb.drewN nd).heap.size a0 z0 := hT
        have hbd : Below w.heap.size w (wb.drewN nd) := below_drewN hbb nd
        have i0 : (wb.drewN nd).cell? ⟨w.heap.size, 0, none⟩ = some (.int .i64 x2_0) := e0
        have i1 : (wb.drewN nd).cell? ⟨w.heap.size, 1, none⟩ = some (.int .i64 x2_1) := e1
        have i2 : (wb.drewN nd).cell? ⟨w.heap.size, 2, none⟩ = some (.int .i64 x2_2) := e2
        have gd : w.heap.size < (wb.drewN nd).heap.size := g0
        generalize wb.drewN nd = wd at *
        clear hT hbb e0 e1 e2 g0
        go_wp2_with (go_at_call 8; refine (near_calls _ _ (by first | exact H1 | exact H2 | exact H3 | exact H4) _).mono ?_; rintro e w1 ⟨rfl, rfl⟩)
        refine (alive_calls _).mono ?_
        rintro e w1 ⟨rfl, hb1⟩
        go_wp2_with fail
        go_ret
        exact ⟨rfl, Below.then_ hbd hb1⟩
      | true =>
        cases b3 with
        | false =>
          go_enter Try.func3, Try.ntmps3
          go_wp2_with fail
          generalize w.alloc (.cells #[.int .i64 x2_0, .int .i64 x2_1, .int .i64 x2_2] 23) = wb at *
          refine (refCheck_calls a0 cap0 z0 _ hT hm _ HV).mono ?_
          rintro e w1 ⟨rfl, nd, rfl⟩
          have hT1 : Tabs (wb.drewN nd) (wb.drewN nd).heap.size a0 z0 := hT
          have hbd : Below w.heap.size w (wb.drewN nd) := below_drewN hbb nd
          have i0 : (wb.drewN nd).cell? ⟨w.heap.size, 0, none⟩ = some (.int .i64 x2_0) := e0
          have i1 : (wb.drewN nd).cell? ⟨w.heap.size, 1, none⟩ = some (.int .i64 x2_1) := e1
          have i2 : (wb.drewN nd).cell? ⟨w.heap.size, 2, none⟩ = some (.int .i64 x2_2) := e2
          have gd : w.heap.size < (wb.drewN nd).heap.size := g0
          generalize wb.drewN nd = wd at *
          clear hT hbb e0 e1 e2 g0
          go_wp2_with (go_at_call 8; refine (near_calls _ _ (by first | exact H1 | exact H2 | exact H3 | exact H4) _).mono ?_; rintro e w1 ⟨rfl, rfl⟩)
          refine (alive_calls _).mono ?_
          rintro e w1 ⟨rfl, hb1⟩
          go_wp2_with fail
          go_ret
          exact ⟨rfl, Below.then_ hbd hb1⟩
        | true =>
          cases b4 with
          | false =>
            go_enter Try.func3, Try.ntmps3
            go_wp2_with fail
            generalize w.alloc (.cells #[.int .i64 x2_0, .int .i64 x2_1, .int .i64 x2_2] 23) = wb at *
            refine (refCheck_calls a0 cap0 z0 _ hT hm _ HV).mono ?_
            rintro e w1 ⟨rfl, nd, rfl⟩
            have hT1 : Tabs (wb.drewN nd) (wb.drewN nd).heap.size a0 z0 := hT
            have hbd : Below w.heap.size w (wb.drewN nd) := below_drewN hbb nd
            have i0 : (wb.drewN nd).cell? ⟨w.heap.size, 0, none⟩ = some (.int .i64 x2_0) := e0
            have i1 : (wb.drewN nd).cell? ⟨w.heap.size, 1, none⟩ = some (.int .i64 x2_1) := e1
            have i2 : (wb.drewN nd).cell? ⟨w.heap.size, 2, none⟩ = some (.int .i64 x2_2) := e2
            have gd : w.heap.size < (wb.drewN nd).heap.size := g0
            generalize wb.drewN nd = wd at *
            clear hT hbb e0 e1 e2 g0
            go_wp2_with (go_at_call 8; refine (near_calls _ _ (by first | exact H1 | exact H2 | exact H3 | exact H4) _).mono ?_; rintro e w1 ⟨rfl, rfl⟩)
            refine (alive_calls _).mono ?_
            rintro e w1 ⟨rfl, hb1⟩
            go_wp2_with fail
            go_ret
            exact ⟨rfl, Below.then_ hbd hb1⟩
          | true =>
            obtain ⟨n1, m1⟩ := near_of H1.out
            obtain ⟨n2, m2⟩ := near_of H2.out
            obtain ⟨n3, m3⟩ := near_of H3.out
            obtain ⟨n4, m4⟩ := near_of H4.out
            have hlen : z0.length ≤ 100 := by
              rcases HV.out with ⟨h, _⟩ | ⟨h, _⟩ | ⟨_, h, _⟩ <;> omega
            have hfar : FarT z0 := by
              rcases HV.out with ⟨h, _⟩ | ⟨h, _⟩ | ⟨_, _, h⟩
              · omega
              · omega
              · intro t ht
                obtain ⟨i, hi⟩ := List.getElem?_of_mem ht
                have := h i t hi
                have h1 := this.1
                have h2 := this.2.1
                exact ⟨by omega, by omega⟩
            obtain ⟨⟨a, kd⟩, hak⟩ : ∃ p, nextOf z0 a1 x2_0 = p := ⟨_, rfl⟩
            have hbd1 := next_bd z0 a1 x2_0 hfar m1
            rw [hak] at hbd1
            dsimp only at hbd1
            have hgt : x2_0 < a := by
              have h := next_gt z0 a1 x2_0
              rw [hak] at h
              exact h
            obtain ⟨ha1, ha2⟩ := hbd1
            have ha3 : a ≤ 288230376151711744 := by omega
            have ha4 : -288230376151711744 ≤ a := by omega
            clear ha1 ha2
            obtain ⟨p, hp⟩ : ∃ p, p = placeOf a kd x2_0 x2_1 x2_2 := ⟨_, rfl⟩
            have HP := Lib.hid hp
            have HN := Lib.hid hak
            have hpp : (p == p) = true := by simp
            clear hp hak
            have S10 : Hid (Serves 10 #[.slice a0 z0.length cap0, .int .i64 a1, .int .i64 x2_0] (.agg #[.int .i64 a, .int .i64 kd]) a0 z0) := fun W h => next_calls a0 cap0 z0 a1 x2_0 W h hlen m1 (by omega) (by omega) a kd HN
            have S11 : Hid (Serves 11 #[.slice a0 z0.length cap0, .int .i64 a1, .int .i64 x2_0] (.agg #[.int .i64 a, .int .i64 kd]) a0 z0) := fun W h => refNext_calls a0 cap0 z0 a1 x2_0 W h hlen m1 (by omega) (by omega) a kd HN
            go_enter Try.func3, Try.ntmps3
            go_wp2_with fail
            generalize w.alloc (.cells #[.int .i64 x2_0, .int .i64 x2_1, .int .i64 x2_2] 23) = wb at *
            refine (refCheck_calls a0 cap0 z0 _ hT hm _ HV).mono ?_
            rintro e w1 ⟨rfl, nd, rfl⟩
            have hT1 : Tabs (wb.drewN nd) (wb.drewN nd).heap.size a0 z0 := hT
            have hbd : Below w.heap.size w (wb.drewN nd) := below_drewN hbb nd
            have i0 : (wb.drewN nd).cell? ⟨w.heap.size, 0, none⟩ = some (.int .i64 x2_0) := e0
            have i1 : (wb.drewN nd).cell? ⟨w.heap.size, 1, none⟩ = some (.int .i64 x2_1) := e1
            have i2 : (wb.drewN nd).cell? ⟨w.heap.size, 2, none⟩ = some (.int .i64 x2_2) := e2
            have gd : w.heap.size < (wb.drewN nd).heap.size := g0
            generalize wb.drewN nd = wd at *
            clear hT hbb e0 e1 e2 g0
            go_upto_region 3 with (go_at_call 8; refine (near_calls _ _ (by first | exact H1 | exact H2 | exact H3 | exact H4) _).mono ?_; rintro e w1 ⟨rfl, rfl⟩)
            go_cut [7, 8] (fun s7 s8 wx => CutIs wd w.heap.size x2_0 x2_1 x2_2 a kd s7 s8 wx)
            case first =>
              have ng0 : w.heap.size ≠ wd.heap.size := Nat.ne_of_lt gd
              have ng1 : w.heap.size ≠ wd.heap.size + 1 := by omega
              have ng2 := ng0.symm
              have ng3 := ng1.symm
              go_region_held3 (fun w' => w'.cell? ⟨w.heap.size, 0, none⟩ = some (.int .i64 x2_0)) (go_keep) (first | (go_at_call 10; (with_reducible refine (serveD0 S10.out wd ?_).mono ?_); exact hT1; rintro e w1 ⟨rfl, hz1⟩; have hb1 : Below wd.heap.size wd w1 := ⟨hz1.os, hz1.tape, hz1.output, hz1.size, hz1.block⟩; clear hz1; have gd1 := Nat.lt_of_lt_of_le gd hb1.size; have f01 := (hb1.cell (p := ⟨w.heap.size, 0, none⟩) gd).trans i0; have hT3 := hT1.on hb1; have nh0 : w.heap.size ≠ w1.heap.size := Nat.ne_of_lt gd1; have nh1 : w.heap.size ≠ w1.heap.size + 1 := Nat.ne_of_lt (Nat.lt_succ_of_lt gd1); have nh2 := nh0.symm; have nh3 := nh1.symm) | (go_at_call 10; (with_reducible refine (serveD1 S10.out wd ?_).mono ?_); exact hT1; rintro e w1 ⟨rfl, hz1, B7⟩; have hb1 : Below wd.heap.size wd w1 := ⟨hz1.os, hz1.tape, hz1.output, hz1.size, hz1.block⟩; clear hz1; have gd1 := Nat.lt_of_lt_of_le gd hb1.size; have f01 := (hb1.cell (p := ⟨w.heap.size, 0, none⟩) gd).trans i0; have hT3 := hT1.on hb1; have nh0 : w.heap.size ≠ w1.heap.size := Nat.ne_of_lt gd1; have nh1 : w.heap.size ≠ w1.heap.size + 1 := Nat.ne_of_lt (Nat.lt_succ_of_lt gd1); have nh2 := nh0.symm; have nh3 := nh1.symm; have A7 : Blk w1 wd.heap.size 29 zz := B7; clear B7; have c0a7 : w1.cell? ⟨wd.heap.size, 0, none⟩ = some (.int .i64 0) := A7.cell 0; have z0a7 := A7.frozen 0; have c1a7 : w1.cell? ⟨wd.heap.size, 1, none⟩ = some (.int .i64 0) := A7.cell 1; have z1a7 := A7.frozen 1; have la7 := A7.lt; have na7 := Nat.ne_of_lt la7; have ma7 := (Nat.ne_of_lt la7).symm; have HA7 := Lib.hid A7; clear A7) | (go_at_call 10; (with_reducible refine (serveD2 S10.out wd ?_).mono ?_); exact hT1; rintro e w1 ⟨rfl, hz1, B7, B8⟩; have hb1 : Below wd.heap.size wd w1 := ⟨hz1.os, hz1.tape, hz1.output, hz1.size, hz1.block⟩; clear hz1; have gd1 := Nat.lt_of_lt_of_le gd hb1.size; have f01 := (hb1.cell (p := ⟨w.heap.size, 0, none⟩) gd).trans i0; have hT3 := hT1.on hb1; have nh0 : w.heap.size ≠ w1.heap.size := Nat.ne_of_lt gd1; have nh1 : w.heap.size ≠ w1.heap.size + 1 := Nat.ne_of_lt (Nat.lt_succ_of_lt gd1); have nh2 := nh0.symm; have nh3 := nh1.symm; have A7 : Blk w1 wd.heap.size 29 zz := B7; clear B7; have c0a7 : w1.cell? ⟨wd.heap.size, 0, none⟩ = some (.int .i64 0) := A7.cell 0; have z0a7 := A7.frozen 0; have c1a7 : w1.cell? ⟨wd.heap.size, 1, none⟩ = some (.int .i64 0) := A7.cell 1; have z1a7 := A7.frozen 1; have la7 := A7.lt; have na7 := Nat.ne_of_lt la7; have ma7 := (Nat.ne_of_lt la7).symm; have HA7 := Lib.hid A7; clear A7; have A8 : Blk w1 (wd.heap.size + 1) 29 zz := B8; clear B8; have c0a8 : w1.cell? ⟨(wd.heap.size + 1), 0, none⟩ = some (.int .i64 0) := A8.cell 0; have z0a8 := A8.frozen 0; have c1a8 : w1.cell? ⟨(wd.heap.size + 1), 1, none⟩ = some (.int .i64 0) := A8.cell 1; have z1a8 := A8.frozen 1; have la8 := A8.lt; have na8 := Nat.ne_of_lt la8; have ma8 := (Nat.ne_of_lt la8).symm; have HA8 := Lib.hid A8; clear A8) | (go_at_call 11; (with_reducible refine (serve0 S11.out w1 ?_).mono ?_); exact hT3; rintro e w2 ⟨rfl, hz2⟩; have hb2 : Below w1.heap.size w1 w2 := ⟨hz2.os, hz2.tape, hz2.output, hz2.size, hz2.block⟩; clear hz2; have gd2 := Nat.lt_of_lt_of_le gd1 hb2.size; have f02 := (hb2.cell (p := ⟨w.heap.size, 0, none⟩) gd1).trans f01; (try (have E7 := HA7.out.on hb2; have c0e7 : w2.cell? ⟨wd.heap.size, 0, none⟩ = some (.int .i64 0) := E7.cell 0; have z0e7 := E7.frozen 0; have c1e7 : w2.cell? ⟨wd.heap.size, 1, none⟩ = some (.int .i64 0) := E7.cell 1; have z1e7 := E7.frozen 1; have le7 := E7.lt; have ne7 := Nat.ne_of_lt le7; have me7 := (Nat.ne_of_lt le7).symm; clear E7)); (try (have E8 := HA8.out.on hb2; have c0e8 : w2.cell? ⟨(wd.heap.size + 1), 0, none⟩ = some (.int .i64 0) := E8.cell 0; have z0e8 := E8.frozen 0; have c1e8 : w2.cell? ⟨(wd.heap.size + 1), 1, none⟩ = some (.int .i64 0) := E8.cell 1; have z1e8 := E8.frozen 1; have le8 := E8.lt; have ne8 := Nat.ne_of_lt le8; have me8 := (Nat.ne_of_lt le8).symm; clear E8))) | (go_at_call 11; (with_reducible refine (serve1 S11.out w1 ?_).mono ?_); exact hT3; rintro e w2 ⟨rfl, hz2, D7⟩; have hb2 : Below w1.heap.size w1 w2 := ⟨hz2.os, hz2.tape, hz2.output, hz2.size, hz2.block⟩; clear hz2; have gd2 := Nat.lt_of_lt_of_le gd1 hb2.size; have f02 := (hb2.cell (p := ⟨w.heap.size, 0, none⟩) gd1).trans f01; (try (have E7 := HA7.out.on hb2; have c0e7 : w2.cell? ⟨wd.heap.size, 0, none⟩ = some (.int .i64 0) := E7.cell 0; have z0e7 := E7.frozen 0; have c1e7 : w2.cell? ⟨wd.heap.size, 1, none⟩ = some (.int .i64 0) := E7.cell 1; have z1e7 := E7.frozen 1; have le7 := E7.lt; have ne7 := Nat.ne_of_lt le7; have me7 := (Nat.ne_of_lt le7).symm; clear E7)); (try (have E8 := HA8.out.on hb2; have c0e8 : w2.cell? ⟨(wd.heap.size + 1), 0, none⟩ = some (.int .i64 0) := E8.cell 0; have z0e8 := E8.frozen 0; have c1e8 : w2.cell? ⟨(wd.heap.size + 1), 1, none⟩ = some (.int .i64 0) := E8.cell 1; have z1e8 := E8.frozen 1; have le8 := E8.lt; have ne8 := Nat.ne_of_lt le8; have me8 := (Nat.ne_of_lt le8).symm; clear E8)); have c0d7 : w2.cell? ⟨w1.heap.size, 0, none⟩ = some (.int .i64 0) := D7.cell 0; have z0d7 := D7.frozen 0; have c1d7 : w2.cell? ⟨w1.heap.size, 1, none⟩ = some (.int .i64 0) := D7.cell 1; have z1d7 := D7.frozen 1; have ld7 := D7.lt; have nd7 := Nat.ne_of_lt ld7; have md7 := (Nat.ne_of_lt ld7).symm; clear D7) | (go_at_call 11; (with_reducible refine (serve2 S11.out w1 ?_).mono ?_); exact hT3; rintro e w2 ⟨rfl, hz2, D7, D8⟩; have hb2 : Below w1.heap.size w1 w2 := ⟨hz2.os, hz2.tape, hz2.output, hz2.size, hz2.block⟩; clear hz2; have gd2 := Nat.lt_of_lt_of_le gd1 hb2.size; have f02 := (hb2.cell (p := ⟨w.heap.size, 0, none⟩) gd1).trans f01; (try (have E7 := HA7.out.on hb2; have c0e7 : w2.cell? ⟨wd.heap.size, 0, none⟩ = some (.int .i64 0) := E7.cell 0; have z0e7 := E7.frozen 0; have c1e7 : w2.cell? ⟨wd.heap.size, 1, none⟩ = some (.int .i64 0) := E7.cell 1; have z1e7 := E7.frozen 1; have le7 := E7.lt; have ne7 := Nat.ne_of_lt le7; have me7 := (Nat.ne_of_lt le7).symm; clear E7)); (try (have E8 := HA8.out.on hb2; have c0e8 : w2.cell? ⟨(wd.heap.size + 1), 0, none⟩ = some (.int .i64 0) := E8.cell 0; have z0e8 := E8.frozen 0; have c1e8 : w2.cell? ⟨(wd.heap.size + 1), 1, none⟩ = some (.int .i64 0) := E8.cell 1; have z1e8 := E8.frozen 1; have le8 := E8.lt; have ne8 := Nat.ne_of_lt le8; have me8 := (Nat.ne_of_lt le8).symm; clear E8)); have c0d7 : w2.cell? ⟨w1.heap.size, 0, none⟩ = some (.int .i64 0) := D7.cell 0; have z0d7 := D7.frozen 0; have c1d7 : w2.cell? ⟨w1.heap.size, 1, none⟩ = some (.int .i64 0) := D7.cell 1; have z1d7 := D7.frozen 1; have ld7 := D7.lt; have nd7 := Nat.ne_of_lt ld7; have md7 := (Nat.ne_of_lt ld7).symm; clear D7; have c0d8 : w2.cell? ⟨(w1.heap.size + 1), 0, none⟩ = some (.int .i64 0) := D8.cell 0; have z0d8 := D8.frozen 0; have c1d8 : w2.cell? ⟨(w1.heap.size + 1), 1, none⟩ = some (.int .i64 0) := D8.cell 1; have z1d8 := D8.frozen 1; have ld8 := D8.lt; have nd8 := Nat.ne_of_lt ld8; have md8 := (Nat.ne_of_lt ld8).symm; clear D8))
              all_goals
                go_wp2_with fail
                go_meet
                have hs1 := hb1.size
                have hs2 := hb2.size
                have hb3 := Below.then_ hb1 hb2
                refine ⟨_, _, rfl, rfl, ?_, ⟨?_, ?_⟩, ?_, ?_⟩
                · repeat first
                    | exact hb3
                    | refine Below.setCell ?_ (by dsimp only; omega) _
                    | refine Below.alloc ?_ (by (try simp); omega) _
                all_goals go_simp
            case rest =>
              obtain ⟨g7, g8, rfl, rfl, hbw, ⟨j0, j1⟩, j2, j3⟩ := hcut
              have gd0 := Nat.lt_of_lt_of_le gd hbw.size
              have g70 := block_lt j0
              have g80 := block_lt j2
              have i00 := (hbw.cell (p := ⟨w.heap.size, 0, none⟩) gd).trans i0
              have i10 := (hbw.cell (p := ⟨w.heap.size, 1, none⟩) gd).trans i1
              have i20 := (hbw.cell (p := ⟨w.heap.size, 2, none⟩) gd).trans i2
              have hbw0 := hbw
              have hda : decide (x2_0 < a) = true := by simpa using hgt
              clear i0 i1 i2 hbw
              go_wp2_with fail
              go_region_held3 (fun w' => w'.cell? ⟨w.heap.size, 0, none⟩ = some (.int .i64 x2_0) ∧ w'.cell? ⟨w.heap.size, 1, none⟩ = some (.int .i64 x2_1) ∧ w'.cell? ⟨w.heap.size, 2, none⟩ = some (.int .i64 x2_2) ∧ w'.cell? ⟨g7, 0, none⟩ = some (.int .i64 a) ∧ w'.cell? ⟨g7, 1, none⟩ = some (.int .i64 kd) ∧ w'.cell? ⟨g8, 0, none⟩ = some (.int .i64 a) ∧ w'.cell? ⟨g8, 1, none⟩ = some (.int .i64 kd)) (go_keep) (first | (go_at_call 12; refine (place_calls a kd x2_0 x2_1 x2_2 _ (by omega) (by omega) (by omega) (by omega) (by omega) (by omega) p HP).mono ?_; rintro e w1 ⟨rfl, hz1⟩; have hc1 : Below wc.heap.size wc w1 := ⟨hz1.os, hz1.tape, hz1.output, hz1.size, hz1.block⟩; clear hz1; have i00_1 := (hc1.cell (p := ⟨w.heap.size, 0, none⟩) gd0).trans i00; have i10_1 := (hc1.cell (p := ⟨w.heap.size, 1, none⟩) gd0).trans i10; have i20_1 := (hc1.cell (p := ⟨w.heap.size, 2, none⟩) gd0).trans i20; have j0_1 := (hc1.cell (p := ⟨g7, 0, none⟩) g70).trans j0; have j1_1 := (hc1.cell (p := ⟨g7, 1, none⟩) g70).trans j1; have j2_1 := (hc1.cell (p := ⟨g8, 0, none⟩) g80).trans j2; have j3_1 := (hc1.cell (p := ⟨g8, 1, none⟩) g80).trans j3; have gd0_1 := Nat.lt_of_lt_of_le gd0 hc1.size; have g70_1 := Nat.lt_of_lt_of_le g70 hc1.size; have g80_1 := Nat.lt_of_lt_of_le g80 hc1.size) | (go_at_call 13; refine (refPlace_calls a kd x2_0 x2_1 x2_2 _ (by omega) (by omega) (by omega) (by omega) (by omega) (by omega) p HP).mono ?_; rintro e w2 ⟨rfl, hz2⟩; have hc2 : Below w1.heap.size w1 w2 := ⟨hz2.os, hz2.tape, hz2.output, hz2.size, hz2.block⟩; clear hz2; have i00_2 := (hc2.cell (p := ⟨w.heap.size, 0, none⟩) gd0_1).trans i00_1; have i10_2 := (hc2.cell (p := ⟨w.heap.size, 1, none⟩) gd0_1).trans i10_1; have i20_2 := (hc2.cell (p := ⟨w.heap.size, 2, none⟩) gd0_1).trans i20_1; have j0_2 := (hc2.cell (p := ⟨g7, 0, none⟩) g70_1).trans j0_1; have j1_2 := (hc2.cell (p := ⟨g7, 1, none⟩) g70_1).trans j1_1; have j2_2 := (hc2.cell (p := ⟨g8, 0, none⟩) g80_1).trans j2_1; have j3_2 := (hc2.cell (p := ⟨g8, 1, none⟩) g80_1).trans j3_1; have gd0_2 := Nat.lt_of_lt_of_le gd0_1 hc2.size; have g70_2 := Nat.lt_of_lt_of_le g70_1 hc2.size; have g80_2 := Nat.lt_of_lt_of_le g80_1 hc2.size) | (go_at_call 9; refine (alive_calls _).mono ?_; rintro e w3 ⟨rfl, hz3⟩; have hc3 : Below w2.heap.size w2 w3 := ⟨hz3.os, hz3.tape, hz3.output, hz3.size, hz3.block⟩; clear hz3; have i00_3 := (hc3.cell (p := ⟨w.heap.size, 0, none⟩) gd0_2).trans i00_2; have i10_3 := (hc3.cell (p := ⟨w.heap.size, 1, none⟩) gd0_2).trans i10_2; have i20_3 := (hc3.cell (p := ⟨w.heap.size, 2, none⟩) gd0_2).trans i20_2; have j0_3 := (hc3.cell (p := ⟨g7, 0, none⟩) g70_2).trans j0_2; have j1_3 := (hc3.cell (p := ⟨g7, 1, none⟩) g70_2).trans j1_2; have j2_3 := (hc3.cell (p := ⟨g8, 0, none⟩) g80_2).trans j2_2; have j3_3 := (hc3.cell (p := ⟨g8, 1, none⟩) g80_2).trans j3_2; have gd0_3 := Nat.lt_of_lt_of_le gd0_2 hc3.size; have g70_3 := Nat.lt_of_lt_of_le g70_2 hc3.size; have g80_3 := Nat.lt_of_lt_of_le g80_2 hc3.size))
              all_goals
                go_wp2_with fail
                go_ret
                exact ⟨rfl, Below.then_ (Below.then_ (Below.then_ (Below.then_ hbd hbw0) hc1) hc2) hc3⟩
  · have hv1 : (v != 0) = true := by simpa using hv0
    go_enter Try.func3, Try.ntmps3
    go_wp2_with fail
    generalize w.alloc (.cells #[.int .i64 x2_0, .int .i64 x2_1, .int .i64 x2_2] 23) = wb at *
    refine (refCheck_calls a0 cap0 z0 _ hT hm _ HV).mono ?_
    rintro e w1 ⟨rfl, nd, rfl⟩
    have hT1 : Tabs (wb.drewN nd) (wb.drewN nd).heap.size a0 z0 := hT
    have hbd : Below w.heap.size w (wb.drewN nd) := below_drewN hbb nd
    have i0 : (wb.drewN nd).cell? ⟨w.heap.size, 0, none⟩ = some (.int .i64 x2_0) := e0
    have i1 : (wb.drewN nd).cell? ⟨w.heap.size, 1, none⟩ = some (.int .i64 x2_1) := e1
    have i2 : (wb.drewN nd).cell? ⟨w.heap.size, 2, none⟩ = some (.int .i64 x2_2) := e2
    have gd : w.heap.size < (wb.drewN nd).heap.size := g0
    generalize wb.drewN nd = wd at *
    clear hT hbb e0 e1 e2 g0
    go_wp2_with (go_at_call 8; refine (near_calls _ _ (by first | exact H1 | exact H2 | exact H3 | exact H4) _).mono ?_; rintro e w1 ⟨rfl, rfl⟩)
    refine (alive_calls _).mono ?_
    rintro e w1 ⟨rfl, hb1⟩
    go_wp2_with fail
    go_ret
    exact ⟨rfl, Below.then_ hbd hb1⟩

set_option maxRecDepth 100000 in
theorem lifted (os : Os) (started : os.Started) (H : Type) (enc : TypeId × Value → H) :
    ReturnsInHanded {} Try.checked os 3 .any (Rows.tabsNextSpec.pre6 enc Try.prog Try.f3 Rows.tabsNextRow.domain false) (Rows.tabsNextSpec.post enc Try.prog Try.f3 false true false false) := by
  refine returnsInHanded_of_change (C := Try.checked) own started (by kernel_rfl) Try.func3
    (ChangeSpec.witness6 (enc := enc) (C := Try.checked) false ⟨#[], #[.slice none 0 0, .int .i64 0, .agg #[.int .i64 0, .int .i64 0, .int .i64 0]], []⟩ 8 (by kernel_rfl) (by kernel_rfl) (by kernel_rfl) (by kernel_rfl)) ?_
  intro W base args ds gs before hval0 hW hcnd _
  have hval : ∀ (j : Nat) t v, Try.f3.params[j]? = some t → args[j]? = some v → Value.okWide Try.prog W .any base t v := hval0
  have hW' := hW
  obtain ⟨p, q, hA0, hV, rfl, hfz, hnd⟩ := hW
  have hA : DataW.TrodAll enc Try.prog W 0 (fun _ => true) true Try.f3.params.toList args.toList ds p := hA0
  rw [Try.params3] at hA hval
  obtain ⟨v0, vs0, d0, ds0, p0, q0, hargs, rfl, rfl, h0, r0⟩ := trodAll_cons hA
  obtain ⟨v1, vs1, d1, ds1, p1, q1, rfl, rfl, rfl, h1, r1⟩ := trodAll_cons r0
  obtain ⟨v2, vs2, d2, ds2, p2, q2, rfl, rfl, rfl, h2, r2⟩ := trodAll_cons r1
  obtain ⟨rfl, rfl, rfl⟩ := trodAll_nil r2
  obtain rfl : args = #[v0, v1, v2] := by cases args; simp_all
  obtain ⟨rfl, rfl⟩ := trodVars_none hV
  have k0 := h0
  have lt0 : ∀ x ∈ p0, x.block < W.heap.size := by obtain ⟨m, hm⟩ := k0; exact DataW.trod_lt m _ _ _ hm
  obtain ⟨a0, len0, cap0, rfl⟩ := okWide_slice Try.underlying22 (hval 0 22 v0 rfl rfl)
  obtain ⟨z0, w0⟩ : ∃ zs, IsRow2 W a0 len0 zs := open_rows2 Try.underlying22 (by kernel_rfl) (fun _ _ _ hl hh => (two_tab Try.underlying29 Try.underlying3 Try.underlying3 (by kernel_rfl) hl hh)) h0
  obtain ⟨a1, rfl, rfl, rfl, w1⟩ := open_int Try.underlying3 (hval 1 3 v1 rfl rfl) h1
  have k2 := h2
  have lt2 : ∀ x ∈ p2, x.block < W.heap.size := by obtain ⟨m, hm⟩ := k2; exact DataW.trod_lt m _ _ _ hm
  obtain ⟨x2_0, x2_1, x2_2, rfl, w_x2_0, w_x2_1, w_x2_2⟩ := open_arr3 Try.underlying23 Try.underlying3 (by kernel_rfl) (by kernel_rfl) (hval 2 23 v2 rfl rfl) h2
  clear hA0 hval0
  refine (walk a0 len0 cap0 z0 a1 x2_0 x2_1 x2_2 W w0 w1 w_x2_0 w_x2_1 w_x2_2).mono fun e W' ⟨he, bel⟩ => ?_
  subst he
  exact ⟨_, rfl, _, _, _, [], _, [], hW', trodAll_mk1 (shut_bool Try.underlying4 _), (trodAll_cons_mk (Below.trod laidOut (by kernel_rfl) (of_decide_eq_true (by kernel_rfl)) k0 bel lt0) (trodAll_cons_mk (shut_int Try.underlying3 w1) (trodAll_cons_mk (Below.trod laidOut (by kernel_rfl) (of_decide_eq_true (by kernel_rfl)) k2 bel lt2) trodAll_mk0))), rfl, bel.frame _, fun h => by cases h⟩

theorem over : Rows.tabsNextRow.holds Try.pinned (OpenSpec.ofChange Rows.tabsNextSpec) :=
  OpenClaim.holds_of_wide 3 Try.f3 rfl rfl rfl rfl rfl rfl rfl ⟨rfl, rfl, rfl, rfl, rfl⟩ rfl rfl rfl rfl rfl (by kernel_rfl) Try.func3 (by kernel_rfl)
    (of_decide_eq_true (by kernel_rfl)) (by unfold Func.isWrapper; first | (rw [if_pos (by decide +kernel)]; kernel_rfl) | (rw [if_neg (by decide +kernel)]; exact ⟨rfl, rfl⟩))
    (fun os started H enc _ => lifted os started H enc)

theorem proved : Rows.TabsNextSaid := over
#print axioms proved
end Go.Proofs.Ytehjeiojbdpmkaa.tabsNext
