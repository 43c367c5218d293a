/-
  Contracts of 'Next', of the program and of the reference. Conditions: at most 100 tabs, numbers far from the edges of an int.
-/
import Derived.Test.YtehjeiojbdpmkaaSmall
namespace Go.Proofs.Ytehjeiojbdpmkaa
open Go.RowKit

/-- THE SLICE VALUE '.slice A l.length c' OF TABS READS AS l, in blocks below B. -/
def Tabs (w : World) (B : Nat) (A : Option Addr) (l : List (Int × Int)) : Prop :=
  l = [] ∨ ∃ b off, A = some ⟨b, off, none⟩ ∧ b < B ∧ ∀ k x, l[k]? = some x → w.cell? ⟨b, off + k * 2, none⟩ = some (.int .i64 x.1) ∧ w.cell? ⟨b, off + k * 2 + 1, none⟩ = some (.int .i64 x.2)
theorem Tabs.at_ {w : World} {B : Nat} {A : Option Addr} {l : List (Int × Int)} (h : Tabs w B A l) {k : Nat} (hk : k < l.length) :
    ∃ b off x, A = some ⟨b, off, none⟩ ∧ b < B ∧ l[k]? = some x ∧ w.cell? ⟨b, off + k * 2, none⟩ = some (.int .i64 x.1) ∧ w.cell? ⟨b, off + k * 2 + 1, none⟩ = some (.int .i64 x.2) := by
  rcases h with rfl | ⟨b, off, hA, hb, hc⟩
  · simp at hk
  · exact ⟨b, off, l[k], hA, hb, List.getElem?_eq_getElem hk, (hc k _ (List.getElem?_eq_getElem hk)).1, (hc k _ (List.getElem?_eq_getElem hk)).2⟩
theorem Tabs.below {w w' : World} {B : Nat} {A : Option Addr} {l : List (Int × Int)} (h : Tabs w B A l) (hb : Below B w w') : Tabs w' B A l := by
  rcases h with rfl | ⟨b, off, hA, hlt, hc⟩
  · exact .inl rfl
  · exact .inr ⟨b, off, hA, hlt, fun k x hx => ⟨(hb.cell (p := ⟨b, off + k * 2, none⟩) hlt).trans (hc k x hx).1, (hb.cell (p := ⟨b, off + k * 2 + 1, none⟩) hlt).trans (hc k x hx).2⟩⟩
theorem Tabs.more {w : World} {B B' : Nat} {A : Option Addr} {l : List (Int × Int)} (h : Tabs w B A l) (hB : B ≤ B') : Tabs w B' A l := by
  rcases h with rfl | ⟨b, off, hA, hb, hc⟩
  · exact .inl rfl
  · exact .inr ⟨b, off, hA, by omega, hc⟩
theorem Tabs.on {w w' : World} {A : Option Addr} {l : List (Int × Int)} (h : Tabs w w.heap.size A l) (hb : Below w.heap.size w w') : Tabs w' w'.heap.size A l := (h.below hb).more hb.size

def stepOf (every : Int) : Int := if every < 1 then 48 else every
/-- the first tab behind x -/
def nextOf (l : List (Int × Int)) (every x : Int) : Int × Int :=
  match l.find? fun t => decide (x < t.1) with
  | some t => t
  | none => ((max x 0 / stepOf every + 1) * stepOf every, 0)
theorem next_hit {l : List (Int × Int)} {every x : Int} {k : Nat} {t : Int × Int} (hall : ∀ j u, j < k → l[j]? = some u → u.1 ≤ x) (ht : l[k]? = some t) (hx : x < t.1) : nextOf l every x = t := by
  have : l.find? (fun t => decide (x < t.1)) = some t := by
    induction l generalizing k with
    | nil => simp at ht
    | cons u r ih =>
      cases k with
      | zero =>
        simp at ht
        subst ht
        rw [List.find?_cons, decide_eq_true hx]
      | succ k =>
        have hu := hall 0 u (Nat.succ_pos k) rfl
        rw [List.find?_cons, decide_eq_false (by omega)]
        exact ih (k := k) (fun j v hj hv => hall (j + 1) v (Nat.succ_lt_succ hj) (by simpa using hv)) (by simpa using ht)
  rw [nextOf, this]
theorem next_none {l : List (Int × Int)} {every x : Int} (hall : ∀ j u, j < l.length → l[j]? = some u → u.1 ≤ x) : nextOf l every x = ((max x 0 / stepOf every + 1) * stepOf every, 0) := by
  have : l.find? (fun t => decide (x < t.1)) = none := by
    rw [List.find?_eq_none]
    intro u hu
    obtain ⟨j, hj⟩ := List.getElem?_of_mem hu
    have := hall j u (List.getElem?_eq_some_iff.1 hj).1 hj
    simp
    exact this
  rw [nextOf, this]
theorem prod_bd (m e : Int) (hm : 0 ≤ m) (he : 1 ≤ e) : 0 ≤ m / e ∧ m / e ≤ m ∧ 0 ≤ (m / e + 1) * e ∧ (m / e + 1) * e ≤ m + e ∧ m < (m / e + 1) * e := by
  have h1 : 0 ≤ m / e := Int.ediv_nonneg hm (by omega)
  have h2 : m / e ≤ m := Int.ediv_le_self e hm
  have h3 := Int.emod_add_mul_ediv m e
  have h4 := Int.emod_nonneg m (show e ≠ 0 by omega)
  have h5 := Int.emod_lt_of_pos m (show 0 < e by omega)
  have h6 : (m / e + 1) * e = e * (m / e) + e := by rw [Int.add_mul, Int.one_mul, Int.mul_comm]
  omega

set_option maxHeartbeats 2000000 in
theorem next_calls (A : Option Addr) (c : Nat) (l : List (Int × Int)) (every x : Int) (w : World) (hI : Tabs w w.heap.size A l) (hn : l.length ≤ 100)
    (he2 : every ≤ 1099511627776) (hx1 : -1152921504606846976 ≤ x) (hx2 : x ≤ 1152921504606846976) (a kd : Int) (H : Hid (nextOf l every x = (a, kd))) :
    Calls Try.prog 10 #[.slice A l.length c, .int .i64 every, .int .i64 x] w fun e w' => e = .returned (.agg #[.int .i64 a, .int .i64 kd]) ∧ Below w.heap.size w w' := by
  obtain ⟨e, hee⟩ : ∃ e, e = stepOf every := ⟨_, rfl⟩
  obtain ⟨m, hm⟩ : ∃ m, m = max x 0 := ⟨_, rfl⟩
  have he1 : 1 ≤ e := by rw [hee, stepOf]; split <;> omega
  have hee2 : e ≤ 1099511627776 := by rw [hee, stepOf]; split <;> omega
  have hm0 : 0 ≤ m := by omega
  have hmx : x ≤ m := by omega
  have hm2 : m ≤ 1152921504606846976 := by omega
  obtain ⟨p1, p2, p3, p4, p5⟩ := prod_bd m e hm0 he1
  have HE := Lib.hid hee
  have HM := Lib.hid hm
  have HR : Hid (∀ (j : Nat) (u : Int × Int) , (∀ i v, i < j → l[i]? = some v → v.1 ≤ x) → l[j]? = some u → x < u.1 → (a, kd) = u) := by
    intro j u h1 h2 h3
    rw [← H.out]
    exact next_hit h1 h2 h3
  have HF : Hid ((∀ i v, i < l.length → l[i]? = some v → v.1 ≤ x) → (a, kd) = ((m / e + 1) * e, 0)) := by
    intro h1
    rw [← H.out, next_none h1, HM.out, HE.out]
  clear hee hm H
  rcases Int.lt_or_le every 1 with hev | hev
  · have he48 : e = 48 := by have h := HE.out; rw [h, stepOf, if_pos hev]
    subst he48
    rcases Int.lt_or_le x 0 with hx0 | hx0
    · have hm00 : m = 0 := by have := HM.out; omega
      subst hm00
      go_enter Try.func10, Try.ntmps10
      go_wp2_with fail
      go_loopw [7, 16] (fun b i wr => ∃ k : Nat, i = .int .i64 k ∧ b = .int .i64 0 ∧ k ≤ l.length ∧ Hid (∀ i v, i < k → l[i]? = some v → v.1 ≤ x) ∧ Below w.heap.size w wr ∧ Blk wr w.heap.size 29 [.int .i64 0, .int .i64 0]) (fun _ i _ => l.length - (intOf i).toNat)
      case atStart => exact ⟨0, rfl, rfl, Nat.zero_le _, by intro i v h; omega, (Below.refl _ _).alloc (Nat.le_refl _) _, Blk.new w 29 _⟩
      case round =>
        obtain ⟨k, rfl, rfl, hk, HA, hb, hB⟩ := hrel
        have hlt0 := hB.lt
        have r0 := hB.cell 0
        have r1 := hB.cell 1
        have f0 := hB.frozen 0
        have f1 := hB.frozen 1
        by_cases hlt : k < l.length
        · obtain ⟨b, off, t, rfl, hlb, ht, c0, c1⟩ := (hI.below hb).at_ hlt
          obtain ⟨t0, t1⟩ := t
          have HT := Lib.hid ht
          clear ht
          rcases Int.lt_or_le x t0 with hxt | hxt
          · have har := HR.out k (t0, t1) HA.out HT.out hxt
            injection har with e1 e2
            subst e1
            subst e2
            have hB2 := ((hB.set_ 0 (.int .i64 a)).set_ 1 (.int .i64 kd)).alloc (.cells #[.int .i64 a, .int .i64 kd] 29)
            have q0 := hB2.cell 0
            have q1 := hB2.cell 1
            have hbe := ((hb.setCell (p := ⟨w.heap.size, 0, none⟩) (Nat.le_refl _) (.int .i64 a)).setCell (p := ⟨w.heap.size, 1, none⟩) (Nat.le_refl _) (.int .i64 kd)).alloc (by simp [World.setCell]; exact hb.size) (.cells #[.int .i64 a, .int .i64 kd] 29)
            clear hB2
            go_wp2_with fail
            exact bodyPost_ret (v := .agg #[.int .i64 a, .int .i64 kd]) (by simp [results, Try.results10, go_sem, q0, q1]) rfl ⟨rfl, hbe⟩
          · go_wp2_with fail
            go_roundw
            case rel =>
              refine ⟨k + 1, by go_num, rfl, by omega, ?_, ?_, ?_⟩
              · intro i v hi hv
                by_cases e : i = k
                · rw [e, HT.out] at hv
                  injection hv with hv
                  rw [← hv]
                  exact hxt
                · exact HA.out i v (by omega) hv
              · exact hb.alloc hb.size _
              · exact hB.alloc _
            case measure => simp [intOf]; omega
        · have har := HF.out (fun i v hi hv => HA.out i v (by omega) hv)
          injection har with e1 e2
          subst e2
          have hPa : a = 48 := by rw [e1]; simp
          have HP := Lib.hid hPa
          have hB2 := (hB.set_ 0 (.int .i64 (48))).set_ 1 (.int .i64 0)
          have q0 := hB2.cell 0
          have q1 := hB2.cell 1
          have hbe := (hb.setCell (p := ⟨w.heap.size, 0, none⟩) (Nat.le_refl _) (.int .i64 (48))).setCell (p := ⟨w.heap.size, 1, none⟩) (Nat.le_refl _) (.int .i64 0)
          clear e1 hPa hB2
          go_wp2_with fail
          exact bodyPost_ret (v := .agg #[.int .i64 (48), .int .i64 0]) (by simp [results, Try.results10, go_sem, q0, q1]) rfl ⟨by rw [HP.out], hbe⟩
    · have hmx0 : x = m := by have := HM.out; omega
      subst hmx0
      go_enter Try.func10, Try.ntmps10
      go_wp2_with fail
      go_loopw [7, 16] (fun b i wr => ∃ k : Nat, i = .int .i64 k ∧ b = .int .i64 x ∧ k ≤ l.length ∧ Hid (∀ i v, i < k → l[i]? = some v → v.1 ≤ x) ∧ Below w.heap.size w wr ∧ Blk wr w.heap.size 29 [.int .i64 0, .int .i64 0]) (fun _ i _ => l.length - (intOf i).toNat)
      case atStart => exact ⟨0, rfl, rfl, Nat.zero_le _, by intro i v h; omega, (Below.refl _ _).alloc (Nat.le_refl _) _, Blk.new w 29 _⟩
      case round =>
        obtain ⟨k, rfl, rfl, hk, HA, hb, hB⟩ := hrel
        have hlt0 := hB.lt
        have r0 := hB.cell 0
        have r1 := hB.cell 1
        have f0 := hB.frozen 0
        have f1 := hB.frozen 1
        by_cases hlt : k < l.length
        · obtain ⟨b, off, t, rfl, hlb, ht, c0, c1⟩ := (hI.below hb).at_ hlt
          obtain ⟨t0, t1⟩ := t
          have HT := Lib.hid ht
          clear ht
          rcases Int.lt_or_le x t0 with hxt | hxt
          · have har := HR.out k (t0, t1) HA.out HT.out hxt
            injection har with e1 e2
            subst e1
            subst e2
            have hB2 := ((hB.set_ 0 (.int .i64 a)).set_ 1 (.int .i64 kd)).alloc (.cells #[.int .i64 a, .int .i64 kd] 29)
            have q0 := hB2.cell 0
            have q1 := hB2.cell 1
            have hbe := ((hb.setCell (p := ⟨w.heap.size, 0, none⟩) (Nat.le_refl _) (.int .i64 a)).setCell (p := ⟨w.heap.size, 1, none⟩) (Nat.le_refl _) (.int .i64 kd)).alloc (by simp [World.setCell]; exact hb.size) (.cells #[.int .i64 a, .int .i64 kd] 29)
            clear hB2
            go_wp2_with fail
            exact bodyPost_ret (v := .agg #[.int .i64 a, .int .i64 kd]) (by simp [results, Try.results10, go_sem, q0, q1]) rfl ⟨rfl, hbe⟩
          · go_wp2_with fail
            go_roundw
            case rel =>
              refine ⟨k + 1, by go_num, rfl, by omega, ?_, ?_, ?_⟩
              · intro i v hi hv
                by_cases e : i = k
                · rw [e, HT.out] at hv
                  injection hv with hv
                  rw [← hv]
                  exact hxt
                · exact HA.out i v (by omega) hv
              · exact hb.alloc hb.size _
              · exact hB.alloc _
            case measure => simp [intOf]; omega
        · have har := HF.out (fun i v hi hv => HA.out i v (by omega) hv)
          injection har with e1 e2
          subst e2
          have hPa : a = (x / 48 + 1) * 48 := by rw [e1]
          have HP := Lib.hid hPa
          have hB2 := (hB.set_ 0 (.int .i64 ((x / 48 + 1) * 48))).set_ 1 (.int .i64 0)
          have q0 := hB2.cell 0
          have q1 := hB2.cell 1
          have hbe := (hb.setCell (p := ⟨w.heap.size, 0, none⟩) (Nat.le_refl _) (.int .i64 ((x / 48 + 1) * 48))).setCell (p := ⟨w.heap.size, 1, none⟩) (Nat.le_refl _) (.int .i64 0)
          clear e1 hPa hB2
          go_wp2_with fail
          exact bodyPost_ret (v := .agg #[.int .i64 ((x / 48 + 1) * 48), .int .i64 0]) (by simp [results, Try.results10, go_sem, q0, q1]) rfl ⟨by rw [HP.out], hbe⟩
  · have heve : every = e := by have h := HE.out; rw [h, stepOf, if_neg (by omega)]
    subst heve
    rcases Int.lt_or_le x 0 with hx0 | hx0
    · have hm00 : m = 0 := by have := HM.out; omega
      subst hm00
      go_enter Try.func10, Try.ntmps10
      go_wp2_with fail
      go_loopw [7, 16] (fun b i wr => ∃ k : Nat, i = .int .i64 k ∧ b = .int .i64 0 ∧ k ≤ l.length ∧ Hid (∀ i v, i < k → l[i]? = some v → v.1 ≤ x) ∧ Below w.heap.size w wr ∧ Blk wr w.heap.size 29 [.int .i64 0, .int .i64 0]) (fun _ i _ => l.length - (intOf i).toNat)
      case atStart => exact ⟨0, rfl, rfl, Nat.zero_le _, by intro i v h; omega, (Below.refl _ _).alloc (Nat.le_refl _) _, Blk.new w 29 _⟩
      case round =>
        obtain ⟨k, rfl, rfl, hk, HA, hb, hB⟩ := hrel
        have hlt0 := hB.lt
        have r0 := hB.cell 0
        have r1 := hB.cell 1
        have f0 := hB.frozen 0
        have f1 := hB.frozen 1
        by_cases hlt : k < l.length
        · obtain ⟨b, off, t, rfl, hlb, ht, c0, c1⟩ := (hI.below hb).at_ hlt
          obtain ⟨t0, t1⟩ := t
          have HT := Lib.hid ht
          clear ht
          rcases Int.lt_or_le x t0 with hxt | hxt
          · have har := HR.out k (t0, t1) HA.out HT.out hxt
            injection har with e1 e2
            subst e1
            subst e2
            have hB2 := ((hB.set_ 0 (.int .i64 a)).set_ 1 (.int .i64 kd)).alloc (.cells #[.int .i64 a, .int .i64 kd] 29)
            have q0 := hB2.cell 0
            have q1 := hB2.cell 1
            have hbe := ((hb.setCell (p := ⟨w.heap.size, 0, none⟩) (Nat.le_refl _) (.int .i64 a)).setCell (p := ⟨w.heap.size, 1, none⟩) (Nat.le_refl _) (.int .i64 kd)).alloc (by simp [World.setCell]; exact hb.size) (.cells #[.int .i64 a, .int .i64 kd] 29)
            clear hB2
            go_wp2_with fail
            exact bodyPost_ret (v := .agg #[.int .i64 a, .int .i64 kd]) (by simp [results, Try.results10, go_sem, q0, q1]) rfl ⟨rfl, hbe⟩
          · go_wp2_with fail
            go_roundw
            case rel =>
              refine ⟨k + 1, by go_num, rfl, by omega, ?_, ?_, ?_⟩
              · intro i v hi hv
                by_cases e : i = k
                · rw [e, HT.out] at hv
                  injection hv with hv
                  rw [← hv]
                  exact hxt
                · exact HA.out i v (by omega) hv
              · exact hb.alloc hb.size _
              · exact hB.alloc _
            case measure => simp [intOf]; omega
        · have har := HF.out (fun i v hi hv => HA.out i v (by omega) hv)
          injection har with e1 e2
          subst e2
          have hPa : a = every := by rw [e1]; simp
          have HP := Lib.hid hPa
          have hB2 := (hB.set_ 0 (.int .i64 (every))).set_ 1 (.int .i64 0)
          have q0 := hB2.cell 0
          have q1 := hB2.cell 1
          have hbe := (hb.setCell (p := ⟨w.heap.size, 0, none⟩) (Nat.le_refl _) (.int .i64 (every))).setCell (p := ⟨w.heap.size, 1, none⟩) (Nat.le_refl _) (.int .i64 0)
          clear e1 hPa hB2
          go_wp2_with fail
          exact bodyPost_ret (v := .agg #[.int .i64 (every), .int .i64 0]) (by simp [results, Try.results10, go_sem, q0, q1]) rfl ⟨by rw [HP.out], hbe⟩
    · have hmx0 : x = m := by have := HM.out; omega
      subst hmx0
      go_enter Try.func10, Try.ntmps10
      go_wp2_with fail
      go_loopw [7, 16] (fun b i wr => ∃ k : Nat, i = .int .i64 k ∧ b = .int .i64 x ∧ k ≤ l.length ∧ Hid (∀ i v, i < k → l[i]? = some v → v.1 ≤ x) ∧ Below w.heap.size w wr ∧ Blk wr w.heap.size 29 [.int .i64 0, .int .i64 0]) (fun _ i _ => l.length - (intOf i).toNat)
      case atStart => exact ⟨0, rfl, rfl, Nat.zero_le _, by intro i v h; omega, (Below.refl _ _).alloc (Nat.le_refl _) _, Blk.new w 29 _⟩
      case round =>
        obtain ⟨k, rfl, rfl, hk, HA, hb, hB⟩ := hrel
        have hlt0 := hB.lt
        have r0 := hB.cell 0
        have r1 := hB.cell 1
        have f0 := hB.frozen 0
        have f1 := hB.frozen 1
        by_cases hlt : k < l.length
        · obtain ⟨b, off, t, rfl, hlb, ht, c0, c1⟩ := (hI.below hb).at_ hlt
          obtain ⟨t0, t1⟩ := t
          have HT := Lib.hid ht
          clear ht
          rcases Int.lt_or_le x t0 with hxt | hxt
          · have har := HR.out k (t0, t1) HA.out HT.out hxt
            injection har with e1 e2
            subst e1
            subst e2
            have hB2 := ((hB.set_ 0 (.int .i64 a)).set_ 1 (.int .i64 kd)).alloc (.cells #[.int .i64 a, .int .i64 kd] 29)
            have q0 := hB2.cell 0
            have q1 := hB2.cell 1
            have hbe := ((hb.setCell (p := ⟨w.heap.size, 0, none⟩) (Nat.le_refl _) (.int .i64 a)).setCell (p := ⟨w.heap.size, 1, none⟩) (Nat.le_refl _) (.int .i64 kd)).alloc (by simp [World.setCell]; exact hb.size) (.cells #[.int .i64 a, .int .i64 kd] 29)
            clear hB2
            go_wp2_with fail
            exact bodyPost_ret (v := .agg #[.int .i64 a, .int .i64 kd]) (by simp [results, Try.results10, go_sem, q0, q1]) rfl ⟨rfl, hbe⟩
          · go_wp2_with fail
            go_roundw
            case rel =>
              refine ⟨k + 1, by go_num, rfl, by omega, ?_, ?_, ?_⟩
              · intro i v hi hv
                by_cases e : i = k
                · rw [e, HT.out] at hv
                  injection hv with hv
                  rw [← hv]
                  exact hxt
                · exact HA.out i v (by omega) hv
              · exact hb.alloc hb.size _
              · exact hB.alloc _
            case measure => simp [intOf]; omega
        · have har := HF.out (fun i v hi hv => HA.out i v (by omega) hv)
          injection har with e1 e2
          subst e2
          have hPa : a = (x / every + 1) * every := by rw [e1]
          have HP := Lib.hid hPa
          have hB2 := (hB.set_ 0 (.int .i64 ((x / every + 1) * every))).set_ 1 (.int .i64 0)
          have q0 := hB2.cell 0
          have q1 := hB2.cell 1
          have hbe := (hb.setCell (p := ⟨w.heap.size, 0, none⟩) (Nat.le_refl _) (.int .i64 ((x / every + 1) * every))).setCell (p := ⟨w.heap.size, 1, none⟩) (Nat.le_refl _) (.int .i64 0)
          clear e1 hPa hB2
          go_wp2_with fail
          exact bodyPost_ret (v := .agg #[.int .i64 ((x / every + 1) * every), .int .i64 0]) (by simp [results, Try.results10, go_sem, q0, q1]) rfl ⟨by rw [HP.out], hbe⟩

set_option maxHeartbeats 2000000 in
theorem refNext_calls (A : Option Addr) (c : Nat) (l : List (Int × Int)) (every x : Int) (w : World) (hI : Tabs w w.heap.size A l) (hn : l.length ≤ 100)
    (he2 : every ≤ 1099511627776) (hx1 : -1152921504606846976 ≤ x) (hx2 : x ≤ 1152921504606846976) (a kd : Int) (H : Hid (nextOf l every x = (a, kd))) :
    Calls Try.prog 11 #[.slice A l.length c, .int .i64 every, .int .i64 x] w fun e w' => e = .returned (.agg #[.int .i64 a, .int .i64 kd]) ∧ Below w.heap.size w w' := by
  obtain ⟨e, hee⟩ : ∃ e, e = stepOf every := ⟨_, rfl⟩
  obtain ⟨m, hm⟩ : ∃ m, m = max x 0 := ⟨_, rfl⟩
  have he1 : 1 ≤ e := by rw [hee, stepOf]; split <;> omega
  have hee2 : e ≤ 1099511627776 := by rw [hee, stepOf]; split <;> omega
  have hm0 : 0 ≤ m := by omega
  have hmx : x ≤ m := by omega
  have hm2 : m ≤ 1152921504606846976 := by omega
  obtain ⟨p1, p2, p3, p4, p5⟩ := prod_bd m e hm0 he1
  have HE := Lib.hid hee
  have HM := Lib.hid hm
  have HR : Hid (∀ (j : Nat) (u : Int × Int) , (∀ i v, i < j → l[i]? = some v → v.1 ≤ x) → l[j]? = some u → x < u.1 → (a, kd) = u) := by
    intro j u h1 h2 h3
    rw [← H.out]
    exact next_hit h1 h2 h3
  have HF : Hid ((∀ i v, i < l.length → l[i]? = some v → v.1 ≤ x) → (a, kd) = ((m / e + 1) * e, 0)) := by
    intro h1
    rw [← H.out, next_none h1, HM.out, HE.out]
  clear hee hm H
  rcases Int.lt_or_le every 1 with hev | hev
  · have he48 : e = 48 := by have h := HE.out; rw [h, stepOf, if_pos hev]
    subst he48
    rcases Int.lt_or_le x 0 with hx0 | hx0
    · have hm00 : m = 0 := by have := HM.out; omega
      subst hm00
      go_enter Try.func11, Try.ntmps11
      go_wp2_with fail
      go_loopw [7] (fun i wr => ∃ k : Nat, i = .int .i64 k ∧ k ≤ l.length ∧ Hid (∀ i v, i < k → l[i]? = some v → v.1 ≤ x) ∧ Below w.heap.size w wr ∧ Blk wr w.heap.size 29 [.int .i64 0, .int .i64 0]) (fun i _ => l.length - (intOf i).toNat)
      case atStart => exact ⟨0, rfl, Nat.zero_le _, by intro i v h; omega, (Below.refl _ _).alloc (Nat.le_refl _) _, Blk.new w 29 _⟩
      case round =>
        obtain ⟨k, rfl, hk, HA, hb, hB⟩ := hrel
        have hlt0 := hB.lt
        have r0 := hB.cell 0
        have r1 := hB.cell 1
        have f0 := hB.frozen 0
        have f1 := hB.frozen 1
        by_cases hlt : k < l.length
        · obtain ⟨b, off, t, rfl, hlb, ht, c0, c1⟩ := (hI.below hb).at_ hlt
          obtain ⟨t0, t1⟩ := t
          have HT := Lib.hid ht
          clear ht
          rcases Int.lt_or_le x t0 with hxt | hxt
          · have har := HR.out k (t0, t1) HA.out HT.out hxt
            injection har with e1 e2
            subst e1
            subst e2
            have hB2 := (hB.set_ 0 (.int .i64 a)).set_ 1 (.int .i64 kd)
            have q0 := hB2.cell 0
            have q1 := hB2.cell 1
            have hbe := (hb.setCell (p := ⟨w.heap.size, 0, none⟩) (Nat.le_refl _) (.int .i64 a)).setCell (p := ⟨w.heap.size, 1, none⟩) (Nat.le_refl _) (.int .i64 kd)
            clear hB2
            go_wp2_with fail
            exact bodyPost_ret (v := .agg #[.int .i64 a, .int .i64 kd]) (by simp [results, Try.results11, go_sem, q0, q1]) rfl ⟨rfl, hbe⟩
          · go_wp2_with fail
            go_roundw
            case rel =>
              refine ⟨k + 1, by go_num, by omega, ?_, hb, hB⟩
              intro i v hi hv
              by_cases e : i = k
              · rw [e, HT.out] at hv
                injection hv with hv
                rw [← hv]
                exact hxt
              · exact HA.out i v (by omega) hv
            case measure => simp [intOf]; omega
        · have har := HF.out (fun i v hi hv => HA.out i v (by omega) hv)
          have hkl : k = l.length := by omega
          subst hkl
          injection har with e1 e2
          subst e2
          have hPa : a = 48 := by rw [e1]; simp
          have HP := Lib.hid hPa
          have hB2 := (hB.set_ 0 (.int .i64 (48))).set_ 1 (.int .i64 0)
          have q0 := hB2.cell 0
          have q1 := hB2.cell 1
          have hbe := (hb.setCell (p := ⟨w.heap.size, 0, none⟩) (Nat.le_refl _) (.int .i64 (48))).setCell (p := ⟨w.heap.size, 1, none⟩) (Nat.le_refl _) (.int .i64 0)
          clear e1 hPa hB2
          rcases Nat.eq_zero_or_pos l.length with hz | hz
          · have hzi : ¬ (0 : Int) < (l.length : Int) := by omega
            have hzn : ¬ 0 < l.length := by omega
            have HZ := Lib.hid hz
            clear hz
            go_wp2_with fail
            exact bodyPost_ret (v := .agg #[.int .i64 (48), .int .i64 0]) (by simp [results, Try.results11, go_sem, q0, q1]) rfl ⟨by rw [HP.out], hbe⟩
          · obtain ⟨b, off, t, rfl, hlb, ht, c0, c1⟩ := (hI.below hb).at_ (k := l.length - 1) (by omega)
            have htx := HA.out (l.length - 1) t (by omega) ht
            have hzi : (0 : Int) < (l.length : Int) := by omega
            clear ht
            go_wp2_with fail
            exact bodyPost_ret (v := .agg #[.int .i64 (48), .int .i64 0]) (by simp [results, Try.results11, go_sem, q0, q1]) rfl ⟨by rw [HP.out], hbe⟩
    · have hmx0 : x = m := by have := HM.out; omega
      subst hmx0
      go_enter Try.func11, Try.ntmps11
      go_wp2_with fail
      go_loopw [7] (fun i wr => ∃ k : Nat, i = .int .i64 k ∧ k ≤ l.length ∧ Hid (∀ i v, i < k → l[i]? = some v → v.1 ≤ x) ∧ Below w.heap.size w wr ∧ Blk wr w.heap.size 29 [.int .i64 0, .int .i64 0]) (fun i _ => l.length - (intOf i).toNat)
      case atStart => exact ⟨0, rfl, Nat.zero_le _, by intro i v h; omega, (Below.refl _ _).alloc (Nat.le_refl _) _, Blk.new w 29 _⟩
      case round =>
        obtain ⟨k, rfl, hk, HA, hb, hB⟩ := hrel
        have hlt0 := hB.lt
        have r0 := hB.cell 0
        have r1 := hB.cell 1
        have f0 := hB.frozen 0
        have f1 := hB.frozen 1
        by_cases hlt : k < l.length
        · obtain ⟨b, off, t, rfl, hlb, ht, c0, c1⟩ := (hI.below hb).at_ hlt
          obtain ⟨t0, t1⟩ := t
          have HT := Lib.hid ht
          clear ht
          rcases Int.lt_or_le x t0 with hxt | hxt
          · have har := HR.out k (t0, t1) HA.out HT.out hxt
            injection har with e1 e2
            subst e1
            subst e2
            have hB2 := (hB.set_ 0 (.int .i64 a)).set_ 1 (.int .i64 kd)
            have q0 := hB2.cell 0
            have q1 := hB2.cell 1
            have hbe := (hb.setCell (p := ⟨w.heap.size, 0, none⟩) (Nat.le_refl _) (.int .i64 a)).setCell (p := ⟨w.heap.size, 1, none⟩) (Nat.le_refl _) (.int .i64 kd)
            clear hB2
            go_wp2_with fail
            exact bodyPost_ret (v := .agg #[.int .i64 a, .int .i64 kd]) (by simp [results, Try.results11, go_sem, q0, q1]) rfl ⟨rfl, hbe⟩
          · go_wp2_with fail
            go_roundw
            case rel =>
              refine ⟨k + 1, by go_num, by omega, ?_, hb, hB⟩
              intro i v hi hv
              by_cases e : i = k
              · rw [e, HT.out] at hv
                injection hv with hv
                rw [← hv]
                exact hxt
              · exact HA.out i v (by omega) hv
            case measure => simp [intOf]; omega
        · have har := HF.out (fun i v hi hv => HA.out i v (by omega) hv)
          have hkl : k = l.length := by omega
          subst hkl
          injection har with e1 e2
          subst e2
          have hPa : a = (x / 48 + 1) * 48 := by rw [e1]
          have HP := Lib.hid hPa
          have hB2 := (hB.set_ 0 (.int .i64 ((x / 48 + 1) * 48))).set_ 1 (.int .i64 0)
          have q0 := hB2.cell 0
          have q1 := hB2.cell 1
          have hbe := (hb.setCell (p := ⟨w.heap.size, 0, none⟩) (Nat.le_refl _) (.int .i64 ((x / 48 + 1) * 48))).setCell (p := ⟨w.heap.size, 1, none⟩) (Nat.le_refl _) (.int .i64 0)
          clear e1 hPa hB2
          rcases Nat.eq_zero_or_pos l.length with hz | hz
          · have hzi : ¬ (0 : Int) < (l.length : Int) := by omega
            have hzn : ¬ 0 < l.length := by omega
            have HZ := Lib.hid hz
            clear hz
            go_wp2_with fail
            exact bodyPost_ret (v := .agg #[.int .i64 ((x / 48 + 1) * 48), .int .i64 0]) (by simp [results, Try.results11, go_sem, q0, q1]) rfl ⟨by rw [HP.out], hbe⟩
          · obtain ⟨b, off, t, rfl, hlb, ht, c0, c1⟩ := (hI.below hb).at_ (k := l.length - 1) (by omega)
            have htx := HA.out (l.length - 1) t (by omega) ht
            have hzi : (0 : Int) < (l.length : Int) := by omega
            clear ht
            go_wp2_with fail
            exact bodyPost_ret (v := .agg #[.int .i64 ((x / 48 + 1) * 48), .int .i64 0]) (by simp [results, Try.results11, go_sem, q0, q1]) rfl ⟨by rw [HP.out], hbe⟩
  · have heve : every = e := by have h := HE.out; rw [h, stepOf, if_neg (by omega)]
    subst heve
    rcases Int.lt_or_le x 0 with hx0 | hx0
    · have hm00 : m = 0 := by have := HM.out; omega
      subst hm00
      go_enter Try.func11, Try.ntmps11
      go_wp2_with fail
      go_loopw [7] (fun i wr => ∃ k : Nat, i = .int .i64 k ∧ k ≤ l.length ∧ Hid (∀ i v, i < k → l[i]? = some v → v.1 ≤ x) ∧ Below w.heap.size w wr ∧ Blk wr w.heap.size 29 [.int .i64 0, .int .i64 0]) (fun i _ => l.length - (intOf i).toNat)
      case atStart => exact ⟨0, rfl, Nat.zero_le _, by intro i v h; omega, (Below.refl _ _).alloc (Nat.le_refl _) _, Blk.new w 29 _⟩
      case round =>
        obtain ⟨k, rfl, hk, HA, hb, hB⟩ := hrel
        have hlt0 := hB.lt
        have r0 := hB.cell 0
        have r1 := hB.cell 1
        have f0 := hB.frozen 0
        have f1 := hB.frozen 1
        by_cases hlt : k < l.length
        · obtain ⟨b, off, t, rfl, hlb, ht, c0, c1⟩ := (hI.below hb).at_ hlt
          obtain ⟨t0, t1⟩ := t
          have HT := Lib.hid ht
          clear ht
          rcases Int.lt_or_le x t0 with hxt | hxt
          · have har := HR.out k (t0, t1) HA.out HT.out hxt
            injection har with e1 e2
            subst e1
            subst e2
            have hB2 := (hB.set_ 0 (.int .i64 a)).set_ 1 (.int .i64 kd)
            have q0 := hB2.cell 0
            have q1 := hB2.cell 1
            have hbe := (hb.setCell (p := ⟨w.heap.size, 0, none⟩) (Nat.le_refl _) (.int .i64 a)).setCell (p := ⟨w.heap.size, 1, none⟩) (Nat.le_refl _) (.int .i64 kd)
            clear hB2
            go_wp2_with fail
            exact bodyPost_ret (v := .agg #[.int .i64 a, .int .i64 kd]) (by simp [results, Try.results11, go_sem, q0, q1]) rfl ⟨rfl, hbe⟩
          · go_wp2_with fail
            go_roundw
            case rel =>
              refine ⟨k + 1, by go_num, by omega, ?_, hb, hB⟩
              intro i v hi hv
              by_cases e : i = k
              · rw [e, HT.out] at hv
                injection hv with hv
                rw [← hv]
                exact hxt
              · exact HA.out i v (by omega) hv
            case measure => simp [intOf]; omega
        · have har := HF.out (fun i v hi hv => HA.out i v (by omega) hv)
          have hkl : k = l.length := by omega
          subst hkl
          injection har with e1 e2
          subst e2
          have hPa : a = every := by rw [e1]; simp
          have HP := Lib.hid hPa
          have hB2 := (hB.set_ 0 (.int .i64 (every))).set_ 1 (.int .i64 0)
          have q0 := hB2.cell 0
          have q1 := hB2.cell 1
          have hbe := (hb.setCell (p := ⟨w.heap.size, 0, none⟩) (Nat.le_refl _) (.int .i64 (every))).setCell (p := ⟨w.heap.size, 1, none⟩) (Nat.le_refl _) (.int .i64 0)
          clear e1 hPa hB2
          rcases Nat.eq_zero_or_pos l.length with hz | hz
          · have hzi : ¬ (0 : Int) < (l.length : Int) := by omega
            have hzn : ¬ 0 < l.length := by omega
            have HZ := Lib.hid hz
            clear hz
            go_wp2_with fail
            exact bodyPost_ret (v := .agg #[.int .i64 (every), .int .i64 0]) (by simp [results, Try.results11, go_sem, q0, q1]) rfl ⟨by rw [HP.out], hbe⟩
          · obtain ⟨b, off, t, rfl, hlb, ht, c0, c1⟩ := (hI.below hb).at_ (k := l.length - 1) (by omega)
            have htx := HA.out (l.length - 1) t (by omega) ht
            have hzi : (0 : Int) < (l.length : Int) := by omega
            clear ht
            go_wp2_with fail
            exact bodyPost_ret (v := .agg #[.int .i64 (every), .int .i64 0]) (by simp [results, Try.results11, go_sem, q0, q1]) rfl ⟨by rw [HP.out], hbe⟩
    · have hmx0 : x = m := by have := HM.out; omega
      subst hmx0
      go_enter Try.func11, Try.ntmps11
      go_wp2_with fail
      go_loopw [7] (fun i wr => ∃ k : Nat, i = .int .i64 k ∧ k ≤ l.length ∧ Hid (∀ i v, i < k → l[i]? = some v → v.1 ≤ x) ∧ Below w.heap.size w wr ∧ Blk wr w.heap.size 29 [.int .i64 0, .int .i64 0]) (fun i _ => l.length - (intOf i).toNat)
      case atStart => exact ⟨0, rfl, Nat.zero_le _, by intro i v h; omega, (Below.refl _ _).alloc (Nat.le_refl _) _, Blk.new w 29 _⟩
      case round =>
        obtain ⟨k, rfl, hk, HA, hb, hB⟩ := hrel
        have hlt0 := hB.lt
        have r0 := hB.cell 0
        have r1 := hB.cell 1
        have f0 := hB.frozen 0
        have f1 := hB.frozen 1
        by_cases hlt : k < l.length
        · obtain ⟨b, off, t, rfl, hlb, ht, c0, c1⟩ := (hI.below hb).at_ hlt
          obtain ⟨t0, t1⟩ := t
          have HT := Lib.hid ht
          clear ht
          rcases Int.lt_or_le x t0 with hxt | hxt
          · have har := HR.out k (t0, t1) HA.out HT.out hxt
            injection har with e1 e2
            subst e1
            subst e2
            have hB2 := (hB.set_ 0 (.int .i64 a)).set_ 1 (.int .i64 kd)
            have q0 := hB2.cell 0
            have q1 := hB2.cell 1
            have hbe := (hb.setCell (p := ⟨w.heap.size, 0, none⟩) (Nat.le_refl _) (.int .i64 a)).setCell (p := ⟨w.heap.size, 1, none⟩) (Nat.le_refl _) (.int .i64 kd)
            clear hB2
            go_wp2_with fail
            exact bodyPost_ret (v := .agg #[.int .i64 a, .int .i64 kd]) (by simp [results, Try.results11, go_sem, q0, q1]) rfl ⟨rfl, hbe⟩
          · go_wp2_with fail
            go_roundw
            case rel =>
              refine ⟨k + 1, by go_num, by omega, ?_, hb, hB⟩
              intro i v hi hv
              by_cases e : i = k
              · rw [e, HT.out] at hv
                injection hv with hv
                rw [← hv]
                exact hxt
              · exact HA.out i v (by omega) hv
            case measure => simp [intOf]; omega
        · have har := HF.out (fun i v hi hv => HA.out i v (by omega) hv)
          have hkl : k = l.length := by omega
          subst hkl
          injection har with e1 e2
          subst e2
          have hPa : a = (x / every + 1) * every := by rw [e1]
          have HP := Lib.hid hPa
          have hB2 := (hB.set_ 0 (.int .i64 ((x / every + 1) * every))).set_ 1 (.int .i64 0)
          have q0 := hB2.cell 0
          have q1 := hB2.cell 1
          have hbe := (hb.setCell (p := ⟨w.heap.size, 0, none⟩) (Nat.le_refl _) (.int .i64 ((x / every + 1) * every))).setCell (p := ⟨w.heap.size, 1, none⟩) (Nat.le_refl _) (.int .i64 0)
          clear e1 hPa hB2
          rcases Nat.eq_zero_or_pos l.length with hz | hz
          · have hzi : ¬ (0 : Int) < (l.length : Int) := by omega
            have hzn : ¬ 0 < l.length := by omega
            have HZ := Lib.hid hz
            clear hz
            go_wp2_with fail
            exact bodyPost_ret (v := .agg #[.int .i64 ((x / every + 1) * every), .int .i64 0]) (by simp [results, Try.results11, go_sem, q0, q1]) rfl ⟨by rw [HP.out], hbe⟩
          · obtain ⟨b, off, t, rfl, hlb, ht, c0, c1⟩ := (hI.below hb).at_ (k := l.length - 1) (by omega)
            have htx := HA.out (l.length - 1) t (by omega) ht
            have hzi : (0 : Int) < (l.length : Int) := by omega
            clear ht
            go_wp2_with fail
            exact bodyPost_ret (v := .agg #[.int .i64 ((x / every + 1) * every), .int .i64 0]) (by simp [results, Try.results11, go_sem, q0, q1]) rfl ⟨by rw [HP.out], hbe⟩
end Go.Proofs.Ytehjeiojbdpmkaa
