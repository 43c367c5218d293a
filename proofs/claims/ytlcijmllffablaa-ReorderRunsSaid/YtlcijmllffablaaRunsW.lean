/-
  The contract of the program's 'Runs': it gives the stretches in the order in which they are seen.
-/
import Derived.Test.YtlcijmllffablaaRunsP
import Derived.Test.YtlcijmllffablaaBase2
import Derived.Deep.QuietTactic
import Derived.BigQuiet
import Derived.Deep.AppendLies
namespace Go.Proofs.Ytlcijmllffablaa
open Go.RowKit

theorem quiet_left {P : Program} {f : FuncId} {args : Array Value} {w : World} {n : Nat} {v : Value}
    (h : Calls P f args (w.drewN n) fun e w' => e = .returned v ∧ w.drewN n = w') : Calls P f args (w.drewN n) fun e w'' => e = .returned v ∧ ∃ m, w'' = w.drewN m :=
  h.mono fun _ _ ⟨he, hm⟩ => ⟨he, n, hm.symm⟩
def sp (r : Run3) : List Value := [.int .i64 (r.1 : Nat), .int .i64 (r.2.1 : Nat), .int .i64 r.2.2]
def sps (R : List Run3) : List Value := R.flatMap sp
theorem sps_snoc (R : List Run3) (r : Run3) : sps (R ++ [r]) = sps R ++ sp r := by simp [sps]
theorem sps_length (R : List Run3) : (sps R).length = R.length * 3 := by
  induction R with
  | nil => rfl
  | cons r R ih => rw [sps, List.flatMap_cons, List.length_append]; unfold sps at ih; rw [ih]; simp [sp]; omega
theorem own_form {w : World} {B : Nat} {e : TypeId} {size n : Nat} {v : Value} {xs : List Value} (h : w.ownsRow B e size v n xs) : ∃ A c, v = .slice A n c := by
  rcases h.2 with ⟨rfl, rfl⟩ | ⟨g, cap, cur, rfl, _⟩
  · exact ⟨_, _, rfl⟩
  · exact ⟨_, _, rfl⟩
theorem cells_new (w : World) (xs : Array Value) (t : TypeId) : ∀ j u, xs.toList[j]? = some u → (w.alloc (.cells xs t)).cell? ((⟨w.heap.size, 0, none⟩ : Addr).add j) = some u := by
  intro j u hu
  rw [Addr.add_lit, Nat.zero_add, cell_of_row _ _ _ xs t (0, 0) (heap_alloc_new w _)]
  simpa using hu
theorem three_cell (a b c : Value) (ha : a.oneCell' = true) (hb : b.oneCell' = true) (hc : c.oneCell' = true) : ∀ u ∈ [a, b, c], u.oneCell' = true := by
  intro u hu
  simp only [List.mem_cons, List.not_mem_nil, or_false] at hu
  rcases hu with hu | hu | hu
  · rw [hu]; exact ha
  · rw [hu]; exact hb
  · rw [hu]; exact hc
theorem sep_types {w : World} {B B' : Nat} {e e' : TypeId} {size size' n n' : Nat} {v v' : Value} {xs xs' : List Value} (h : w.ownsRow B e size v n xs) (h' : w.ownsRow B' e' size' v' n' xs') (hne : e ≠ e') : Sep v v' := by
  rcases h.2 with ⟨rfl, _⟩ | ⟨g, cap, cur, rfl, _, hg, _⟩
  · exact .inl rfl
  · rcases h'.2 with ⟨rfl, _⟩ | ⟨g', cap', cur', rfl, _, hg', _⟩
    · exact .inr (.inl rfl)
    · refine .inr (.inr ?_)
      intro e0
      simp only [Value.ownBlock, Option.some.injEq] at e0
      subst e0
      rw [hg] at hg'
      injection hg' with hg'
      injection hg' with _ ht
      exact hne ht
theorem sps_at (r : List Run3) (q : Run3) (j : Nat) : (sps (r ++ [q]))[r.length * 3 + j]? = (sp q)[j]? := by
  rw [sps_snoc, List.getElem?_append_right (by rw [sps_length]; omega), sps_length, Nat.add_sub_cancel_left]
theorem sps_put (r : List Run3) (f t t' : Nat) (v : Int) : (sps (r ++ [(f, t, v)])).set (r.length * 3 + 1) (.int .i64 (t' : Nat)) = sps (r ++ [(f, t', v)]) := by
  rw [sps_snoc, sps_snoc, List.set_append_right _ _ (by rw [sps_length]; omega), sps_length, Nat.add_sub_cancel_left]
  rfl
theorem getD_held {l : List Int} {k : Nat} {x h : Int} (hx : l[k]? = some x) (hh : held x = h) : (l.map held).getD k 0 = h := by
  rw [List.getD_eq_getElem?_getD, List.getElem?_map, hx]
  exact hh
theorem run_first {L : List Int} {k : Nat} {h : Int} (hR : [] = runsK L k) (hk : L.getD k 0 = h) : [(k, k + 1, h)] = runsK L (k + 1) := by
  rw [runsK, ← hR, hk]; rfl
theorem run_same {L : List Int} {k : Nat} {h : Int} {q : Run3} {r : List Run3} (hR : q :: r = runsK L k) (hk : L.getD k 0 = h) (hv : q.2.2 = h) : (q.1, k + 1, h) :: r = runsK L (k + 1) := by
  rw [runsK, ← hR, hk]
  obtain ⟨f, t, v⟩ := q
  have hv' : v = h := hv
  rw [addRun, if_pos hv']
theorem run_new {L : List Int} {k : Nat} {h : Int} {q : Run3} {r : List Run3} (hR : q :: r = runsK L k) (hk : L.getD k 0 = h) (hv : ¬ q.2.2 = h) : (k, k + 1, h) :: q :: r = runsK L (k + 1) := by
  rw [runsK, ← hR, hk]
  obtain ⟨f, t, v⟩ := q
  have hv' : ¬ v = h := hv
  rw [addRun, if_neg hv']
theorem sps_get : ∀ (R : List Run3) (m : Nat) (q : Run3) (j : Nat), R[m]? = some q → j < 3 → (sps R)[m * 3 + j]? = (sp q)[j]?
  | [], m, q, j, h, _ => by simp at h
  | r :: R, 0, q, j, h, hj => by
    simp at h
    subst h
    rw [sps, List.flatMap_cons, Nat.zero_mul, Nat.zero_add, List.getElem?_append_left (by simp [sp]; omega)]
  | r :: R, m + 1, q, j, h, hj => by
    have h' : R[m]? = some q := by simpa using h
    have := sps_get R m q j h' hj
    rw [sps, List.flatMap_cons, List.getElem?_append_right (by simp [sp]; omega)]
    unfold sps at this
    rw [← this]
    simp [sp]
    congr 1
    omega
theorem own_as {w : World} {B g n c : Nat} {xs : List Value} (h : w.ownsRow B 38 3 (.slice (some ⟨g, 0, none⟩) n c) n xs) : w.ownsRow B 38 3 (.slice (some ⟨g, 0, none⟩) n c) n xs := h
theorem info38 : (Try.prog.info? 38).map (fun i => (i.zero, i.size, i.bytes)) = some (some (.agg #[.int .i64 0, .int .i64 0, .int .i64 0]), 3, 24) := by kernel_rfl

theorem runs_calls (A : Option Addr) (c : Nat) (l : List Int) (w : World) (hI : Ints w w.heap.size A l) (hn : l.length ≤ 100) :
    Calls Try.prog 20 #[.slice A l.length c] w fun e w' => ∃ v T, e = .returned v ∧ Bl (l.map held) l.length (rounds l).1 T ∧ w'.ownsRow w.heap.size 38 3 v T.length (sps T) ∧ Below w.heap.size w w' := by
  obtain ⟨i3, hi, hz0, hz1, hz2⟩ := info_parts (show (Try.prog.info? 3).map (fun i => (i.zero, i.size, i.bytes)) = some (some (.int .i64 0), 1, 8) by kernel_rfl)
  obtain ⟨i38, hj, hy0, hy1, hy2⟩ := info_parts info38
  go_enter Try.func20, Try.ntmps20
  go_wp2
  go_loopw [3, 4, 13] (fun vR vK i wr => ∃ (k n : Nat) (R : List Run3) (K : List Int), i = .int .i64 k ∧ k ≤ l.length ∧ Hid (R = runsK (l.map held) k) ∧ Hid (R.length = n) ∧ n ≤ k ∧ Hid (K.map held = R.reverse.map (·.2.2)) ∧
      wr.ownsRow w.heap.size 38 3 vR n (sps R.reverse) ∧ wr.ownsRow w.heap.size 3 1 vK n (ivs K) ∧ Below w.heap.size w wr) (fun _ _ i _ => l.length - (intOf i).toNat)
  case atStart => exact ⟨0, 0, [], [], rfl, Nat.zero_le _, rfl, rfl, Nat.le_refl _, rfl, World.ownsRow_nil _ _ _ _, World.ownsRow_nil _ _ _ _, Below.refl _ _⟩
  case round =>
    obtain ⟨k, n, R, K, rfl, hk, HR, HN, hnk, HK, hR, hK, hb⟩ := hrel
    have hsz := hb.size
    by_cases hlt : k < l.length
    · obtain ⟨b, off, x, rfl, hlb, hx, hc⟩ := (hI.below hb).at_ hlt
      obtain ⟨h, hh⟩ : ∃ h, held x = h := ⟨_, rfl⟩
      have HH := Lib.hid hh
      have HX := Lib.hid hx
      clear hh hx
      by_cases hn0 : n = 0
      · have hg : decide (0 < n) = false := decide_eq_false (by omega)
        obtain ⟨AR, cR, rfl⟩ := own_form hR
        have HN0 := Lib.hid hn0
        clear hn0
        go_wp2
        go_quiet (fail)
        have hRq : (wr.drewN nq).ownsRow w.heap.size 38 3 (.slice AR n cR) n (sps R.reverse) := hR
        have hKq : (wr.drewN nq).ownsRow w.heap.size 3 1 u4 n (ivs K) := hK
        have hbq := below_drewN hb nq
        clear hR hK hb hc hsz
        generalize wr.drewN nq = wq at *
        have hsz := hbq.size
        go_wp2_with (first | (go_at_call 27; refine (held_calls _ _ HH _).mono ?_; rintro e w' ⟨rfl, rfl⟩) | (at_builtin; refine wpList_append_own_at _ rfl (.tmp 40) (.tmp 47) 30 rfl w.heap.size 38 i38 (.agg #[.int .i64 0, .int .i64 0, .int .i64 0]) 3 24 Try.underlying30 hj hy0 hy1 hy2 rfl (by decide) _ _ _ rfl (hRq.alloc _) ⟨wq.heap.size, 0, none⟩ 1 1 [.int .i64 k, .int .i64 ((k : Int) + 1), .int .i64 h] rfl rfl (cells_new _ _ _) (three_cell _ _ _ rfl rfl rfl) (by unfold maxLen; omega) (by omega) (by simp; omega) ?_; intro vR' w1 hR1 hg1 _ ha1; obtain ⟨hK1, _⟩ := push_other hKq (sep_types hRq hKq (by decide)) hg1 ha1; have hb1 := push_below hbq (Nat.le_refl _) hRq hg1; have hz1s := hb1.size) | (at_builtin; refine wpList_append_own_at _ rfl (.tmp 49) (.tmp 51) 22 rfl w.heap.size 3 i3 (.int .i64 0) 1 8 Try.underlying22 hi hz0 hz1 hz2 rfl (by decide) _ _ _ rfl (hK1.alloc _) ⟨w1.heap.size, 0, none⟩ 1 1 [.int .i64 x] rfl rfl (cell_one_new _ _ _) (one_cell _ rfl) (by unfold maxLen; omega) (by omega) (by simp; omega) ?_; intro vK' w2 hK2 hg2 _ ha2; obtain ⟨hR2, _⟩ := push_other hR1 (sep_types hK1 hR1 (by decide)) hg2 ha2; have hb2 := push_below hb1 (Nat.le_refl _) hK1 hg2))
        go_roundw
        case rel =>
          refine ⟨k + 1, n + 1, (k, k + 1, h) :: R, K ++ [x], by go_num, by omega, ?_, ?_, by omega, ?_, ?_, ?_, hb2⟩
          · have hR0 : R = [] := List.eq_nil_of_length_eq_zero (by rw [HN.out]; exact HN0.out)
            have h := HR.out
            rw [hR0] at h ⊢
            exact run_first h (getD_held HX.out HH.out)
          · unfold Hid; rw [List.length_cons, HN.out]
          · unfold Hid; rw [List.map_append, HK.out]; simp [HH.out]
          · rw [List.reverse_cons, sps_snoc]; exact hR2
          · rw [← ivs_snoc]; exact hK2
        case measure => simp [intOf]; omega
      · obtain ⟨g, cap, hv, hbg, hglt⟩ := hR.form (by omega)
        subst hv
        obtain ⟨n1, hn1⟩ : ∃ n1, n = n1 + 1 := ⟨n - 1, by omega⟩
        have hg : 0 < n := by omega
        have hw1 : IntKind.i64.wrap ((n : Int) - 1) = (n1 : Int) := by rw [IntWalk.i64_in _ (by omega)]; omega
        have hni : (n1 : Int) < (n : Int) := by omega
        obtain ⟨q, r, hqr⟩ : ∃ q r, R = q :: r := by
          cases R with
          | nil => have h := HN.out; simp at h; omega
          | cons q r => exact ⟨q, r, rfl⟩
        subst hqr
        have hrl : r.length = n1 := by have h := HN.out; simp at h; omega
        have hcv : wr.cell? ⟨g, n1 * 3 + 2, none⟩ = some (.int .i64 q.2.2) := by
          rw [hR.cellAt _ (by omega), List.reverse_cons, ← hrl, ← List.length_reverse, sps_at]
          rfl
        have hct : wr.cell? ⟨g, n1 * 3 + 1, none⟩ = some (.int .i64 (q.2.1 : Nat)) := by
          rw [hR.cellAt _ (by omega), List.reverse_cons, ← hrl, ← List.length_reverse, sps_at]
          rfl
        have HN1 := Lib.hid hn1
        have HRL := Lib.hid hrl
        clear hn1 hn0 hrl
        by_cases hvh : q.2.2 = h
        · have hd : (q.2.2 == h) = true := by simpa using hvh
          have HVH := Lib.hid hvh
          clear hvh
          go_wp2_with fail
          go_quiet ((go_at_call 27; exact quiet_left (held_calls _ _ HH _)))
          have hct' : (wr.drewN nq).cell? ⟨g, n1 * 3 + 1, none⟩ = some (.int .i64 (q.2.1 : Nat)) := hct
          clear hct
          have hRq : (wr.drewN nq).ownsRow w.heap.size 38 3 (.slice (some ⟨g, 0, none⟩) n cap) n (sps (q :: r).reverse) := hR
          have hKq : (wr.drewN nq).ownsRow w.heap.size 3 1 u4 n (ivs K) := hK
          have hbq := below_drewN hb nq
          have hcv' : (wr.drewN nq).cell? ⟨g, n1 * 3 + 2, none⟩ = some (.int .i64 q.2.2) := hcv
          clear hR hK hb hc hsz hcv hw1
          generalize wr.drewN nq = wq at *
          have hsz := hbq.size
          have hfz : wq.frozen? ⟨g, (n - 1) * 3 + 1, none⟩ = false := hRq.frozenAt _
          have hct2 : wq.cell? ⟨g, (n - 1) * 3 + 1, none⟩ = some (.int .i64 (q.2.1 : Nat)) := by rw [HN1.out]; exact hct'
          have hst := hRq.stored ((n - 1) * 3 + 1) (.int .i64 ((k : Int) + 1))
          have hK2 := hKq.kept hst.2 (by rcases sep_types hKq hRq (by decide) with h | h | h; exact .inl h; simp [Value.ownBlock] at h; exact .inr h)
          go_wp2_with fail
          go_roundw
          case rel =>
            refine ⟨k + 1, n, (q.1, k + 1, h) :: r, K, by go_num, by omega, ?_, HN, by omega, ?_, ?_, hK2, hbq.setCell hbg _⟩
            · exact run_same HR.out (getD_held HX.out HH.out) HVH.out
            · unfold Hid; rw [HK.out, List.reverse_cons, List.reverse_cons, List.map_append, List.map_append, List.map_singleton, List.map_singleton, HVH.out]
            · have hs := hst.1
              rw [List.reverse_cons] at hs
              have he : r.reverse.length = n - 1 := by rw [List.length_reverse, HRL.out, HN1.out]; rfl
              have hq : q = (q.1, q.2.1, h) := by rw [← HVH.out]
              rw [List.reverse_cons]
              have hp := sps_put r.reverse q.1 q.2.1 (k + 1) h
              rw [← hq, he] at hp
              rw [← hp]
              exact hs
          case measure => simp [intOf]; omega
        · have hd : (q.2.2 == h) = false := by simpa using hvh
          go_wp2_with fail
          go_quiet ((go_at_call 27; exact quiet_left (held_calls _ _ HH _)))
          clear hct
          have hRq : (wr.drewN nq).ownsRow w.heap.size 38 3 (.slice (some ⟨g, 0, none⟩) n cap) n (sps (q :: r).reverse) := hR
          have hKq : (wr.drewN nq).ownsRow w.heap.size 3 1 u4 n (ivs K) := hK
          have hbq := below_drewN hb nq
          have hcv' : (wr.drewN nq).cell? ⟨g, n1 * 3 + 2, none⟩ = some (.int .i64 q.2.2) := hcv
          clear hR hK hb hc hsz hcv hw1
          generalize wr.drewN nq = wq at *
          have hsz := hbq.size
          go_wp2_with (first | (go_at_call 27; refine (held_calls _ _ HH _).mono ?_; rintro e w' ⟨rfl, rfl⟩) | (at_builtin; refine wpList_append_own_at _ rfl (.tmp 40) (.tmp 47) 30 rfl w.heap.size 38 i38 (.agg #[.int .i64 0, .int .i64 0, .int .i64 0]) 3 24 Try.underlying30 hj hy0 hy1 hy2 rfl (by decide) _ _ _ rfl (hRq.alloc _) ⟨wq.heap.size, 0, none⟩ 1 1 [.int .i64 k, .int .i64 ((k : Int) + 1), .int .i64 h] rfl rfl (cells_new _ _ _) (three_cell _ _ _ rfl rfl rfl) (by unfold maxLen; omega) (by omega) (by simp; omega) ?_; intro vR' w1 hR1 hg1 _ ha1; obtain ⟨hK1, _⟩ := push_other hKq (sep_types hRq hKq (by decide)) hg1 ha1; have hb1 := push_below hbq (Nat.le_refl _) hRq hg1; have hz1s := hb1.size) | (at_builtin; refine wpList_append_own_at _ rfl (.tmp 49) (.tmp 51) 22 rfl w.heap.size 3 i3 (.int .i64 0) 1 8 Try.underlying22 hi hz0 hz1 hz2 rfl (by decide) _ _ _ rfl (hK1.alloc _) ⟨w1.heap.size, 0, none⟩ 1 1 [.int .i64 x] rfl rfl (cell_one_new _ _ _) (one_cell _ rfl) (by unfold maxLen; omega) (by omega) (by simp; omega) ?_; intro vK' w2 hK2 hg2 _ ha2; obtain ⟨hR2, _⟩ := push_other hR1 (sep_types hK1 hR1 (by decide)) hg2 ha2; have hb2 := push_below hb1 (Nat.le_refl _) hK1 hg2))
          go_roundw
          case rel =>
            refine ⟨k + 1, n + 1, (k, k + 1, h) :: q :: r, K ++ [x], by go_num, by omega, ?_, ?_, by omega, ?_, ?_, ?_, hb2⟩
            · exact run_new HR.out (getD_held HX.out HH.out) hvh
            · unfold Hid; rw [List.length_cons, HN.out]
            · unfold Hid; rw [List.map_append, HK.out]; simp [HH.out]
            · rw [List.reverse_cons, sps_snoc]; exact hR2
            · rw [← ivs_snoc]; exact hK2
          case measure => simp [intOf]; omega
    · have hkl : k = l.length := by omega
      subst hkl
      obtain ⟨L, hL⟩ : ∃ L, L = l.map held := ⟨_, rfl⟩
      have HRR := HR.out
      rw [← hL] at HRR
      have HGR : Hid (G L R l.length) := by rw [HRR]; exact runs_good L _ (by rw [hL]; simp)
      have HLL := Lib.hid hL
      have hKl : K.length = n := by have h := congrArg List.length HK.out; simp at h; rw [h]; exact HN.out
      have hK' : wr.ownsRow w.heap.size 3 1 u4 K.length (ivs K) := by rw [hKl]; exact hK
      obtain ⟨AK, cK, hvK, hIK⟩ := own_ints hK'
      obtain ⟨AR, cR, hvR⟩ := own_form hR
      rw [hvR] at hR
      rw [hvK, hvR]
      have hKn : K.length ≤ 100 := by omega
      obtain ⟨V, hV⟩ : ∃ V, V = vis K := ⟨_, rfl⟩
      have HV := Lib.hid hV
      have HKl := Lib.hid hKl
      clear HRR hL hK hK' hvK hvR hV hKl HR hi hz0 hz1 hz2
      go_wp2_with fail
      refine (visual_calls AK cK K _ hIK hKn V HV).mono ?_
      rintro e w2 ⟨A2, c2, rfl, hI2, hb2⟩
      have hR2 := own_on hR hb2
      have hb3 := Below.then_ hb hb2
      have hIV := hI2.ints
      clear hR hI2 hb hb2 hIK
      go_wp2_with fail
      obtain ⟨T, hT⟩ : ∃ T, T = (rounds K).1.map fun j => R.reverse.getD j (0, 0, 0) := ⟨_, rfl⟩
      have HBL : Hid (Bl (l.map held) l.length (rounds l).1 T) := by
        rw [hT]
        refine runs_law l K R.reverse ?_ HK.out
        rw [List.reverse_reverse, ← HLL.out]
        exact HGR.out
      have hVl : V.length = n := by rw [HV.out, vis_length]; exact HKl.out
      have hVn : V.length ≤ 100 := by omega
      have HTV : Hid (∀ (k : Nat) (x : Int), V[k]? = some x → ∃ m : Nat, x = m ∧ m < n ∧ ∃ q, R.reverse[m]? = some q ∧ T[k]? = some q) := by
        intro k x hx
        rw [HV.out, vis, ints_get] at hx
        cases hm : (rounds K).1[k]? with
        | none => rw [hm] at hx; cases hx
        | some m =>
          rw [hm] at hx
          injection hx with hx
          have hmK := (rounds_places K).2 m (List.mem_of_getElem? hm)
          have hmn : m < n := by rw [← HKl.out]; exact hmK
          have hmR : m < R.reverse.length := by rw [List.length_reverse, HN.out]; exact hmn
          refine ⟨m, hx.symm, hmn, R.reverse[m], List.getElem?_eq_getElem hmR, ?_⟩
          rw [hT, List.getElem?_map, hm, Option.map_some, List.getD_eq_getElem?_getD, List.getElem?_eq_getElem hmR]
          rfl
      have HTl : Hid (T.length = V.length) := by
        unfold Hid
        rw [hT, List.length_map, hVl, ← HKl.out]
        exact (rounds_places K).1
      have HVl := Lib.hid hVl
      have hs2 := hb3.size
      clear hT hVl
      go_loopw [8, 57] (fun vO i wr => ∃ k : Nat, i = .int .i64 k ∧ k ≤ V.length ∧ wr.ownsRow w2.heap.size 38 3 vO k (sps (T.take k)) ∧ Below w2.heap.size w2 wr) (fun _ i _ => V.length - (intOf i).toNat)
      case atStart => exact ⟨0, rfl, Nat.zero_le _, World.ownsRow_nil _ _ _ _, Below.refl _ _⟩
      case round =>
        obtain ⟨k, rfl, hk, hO, hb4⟩ := hrel
        have hs4 := hb4.size
        by_cases hlt : k < V.length
        · obtain ⟨b, off, x, rfl, hlb, hx, hc⟩ := (hIV.below hb4).at_ hlt
          obtain ⟨m, rfl, hmn, q, hq, hTq⟩ := HTV.out k x hx
          have hRw := own_on hR2 hb4
          obtain ⟨g, cap, hv, hbg, hglt⟩ := hRw.form (by omega)
          injection hv with hA hn hc'
          subst hA
          have c0 : wr.cell? ⟨g, m * 3, none⟩ = some (.int .i64 (q.1 : Nat)) := by
            have := (own_as hRw).cellAt (m * 3) (by omega)
            rw [this, show m * 3 = m * 3 + 0 from rfl, sps_get _ m q 0 hq (by omega)]; rfl
          have c1 : wr.cell? ⟨g, m * 3 + 1, none⟩ = some (.int .i64 (q.2.1 : Nat)) := by
            have := (own_as hRw).cellAt (m * 3 + 1) (by omega)
            rw [this, sps_get _ m q 1 hq (by omega)]; rfl
          have c2 : wr.cell? ⟨g, m * 3 + 2, none⟩ = some (.int .i64 q.2.2) := by
            have := (own_as hRw).cellAt (m * 3 + 2) (by omega)
            rw [this, sps_get _ m q 2 hq (by omega)]; rfl
          have hTt := Lib.hid (take_at hTq)
          have hmi : (m : Int) < (n : Int) := by omega
          clear hx hq hTq hc'
          go_wp2_with (at_builtin; refine wpList_append_own_at _ rfl (.tmp 61) (.tmp 66) 30 rfl w2.heap.size 38 i38 (.agg #[.int .i64 0, .int .i64 0, .int .i64 0]) 3 24 Try.underlying30 hj hy0 hy1 hy2 rfl (by decide) _ _ _ rfl (hO.alloc _) ⟨wr.heap.size, 0, none⟩ 1 1 (sp q) rfl rfl (cells_new _ _ _) (three_cell _ _ _ rfl rfl rfl) (by unfold maxLen; omega) (by omega) (by simp; omega) ?_; intro vO' w3 hO1 hg1 _ ha1; have hb5 := push_below hb4 (Nat.le_refl _) hO hg1)
          go_roundw
          case rel =>
            refine ⟨k + 1, by go_num, by omega, ?_, hb5⟩
            rw [hTt.out, sps_snoc]
            exact hO1
          case measure => simp [intOf]; omega
        · have hkV : k = T.length := by rw [HTl.out]; omega
          have hO2 : wr.ownsRow w2.heap.size 38 3 u8 T.length (sps T) := by
            rw [hkV, List.take_of_length_le (Nat.le_refl _)] at hO
            exact hO
          clear hkV
          go_wp2_with fail
          go_ret
          exact ⟨_, T, rfl, HBL.out, own_low hO2 (by omega), Below.then_ hb3 hb4⟩
end Go.Proofs.Ytlcijmllffablaa
