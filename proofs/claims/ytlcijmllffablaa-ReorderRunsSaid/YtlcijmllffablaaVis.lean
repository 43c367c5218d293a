/-
  Contracts of Visual, Logical and Turns, of the program and of the reference: both compute the same plain functions. Condition: at most 100 levels.
-/
import Derived.Test.YtlcijmllffablaaRefB
import Derived.Test.YtlcijmllffablaaPerm
namespace Go.Proofs.Ytlcijmllffablaa
open Go.RowKit

theorem rounds_places (l : List Int) : Places l.length (rounds l).1 := by
  have h : ∀ (m : Nat) (a : Int) (o : List Nat) (n : Nat), Places l.length o → Places l.length (loopR l a m o n).1 := by
    intro m
    induction m with
    | zero => intro a o n h; exact h
    | succ m ih => intro a o n h; exact ih a _ _ (places_rev _ h)
  exact h _ _ _ _ (places_range _)
theorem rev_nodup {p : Nat → Bool} : ∀ (r a : List Nat), (a ++ r).Nodup → (rev p a r).Nodup
  | [], a, h => by simpa [rev] using h
  | x :: r, a, h => by
    have h' := h
    rw [List.nodup_append] at h'
    obtain ⟨ha, hxr, hd⟩ := h'
    rw [List.nodup_cons] at hxr
    rw [rev]
    split
    · refine rev_nodup r (x :: a) ?_
      rw [List.cons_append, List.nodup_cons, List.mem_append, List.nodup_append]
      exact ⟨fun e => e.elim (fun e => hd x e x (by simp) rfl) hxr.1, ha, hxr.2, fun y hy z hz => hd y hy z (by simp [hz])⟩
    · rw [List.nodup_append, List.nodup_cons]
      refine ⟨ha, ⟨fun e => hxr.1 (by rw [rev_mem] at e; simpa using e), rev_nodup r [] (by simpa using hxr.2)⟩, fun y hy z hz => ?_⟩
      refine hd y hy z ?_
      rcases List.mem_cons.1 hz with hz | hz
      · simp [hz]
      · rw [rev_mem] at hz
        simp at hz
        simp [hz]
theorem rounds_nodup (l : List Int) : (rounds l).1.Nodup := by
  have h : ∀ (m : Nat) (a : Int) (o : List Nat) (n : Nat), o.Nodup → (loopR l a m o n).1.Nodup := by
    intro m
    induction m with
    | zero => intro a o n h; exact h
    | succ m ih => intro a o n h; exact ih a _ _ (rev_nodup _ _ (by simpa using h))
  exact h _ _ _ _ List.nodup_range
def vis (l : List Int) : List Int := ints (rounds l).1
theorem vis_length (l : List Int) : (vis l).length = l.length := by unfold vis; rw [ints_length]; exact (rounds_places l).1
theorem vis_perm (l : List Int) : Perm (vis l) := by
  refine ⟨?_, fun x hx => ?_⟩
  · unfold vis ints
    refine List.Pairwise.map _ ?_ (rounds_nodup l)
    intro a b h e
    have e2 : (a : Int) = (b : Int) := e
    exact h (by omega)
  · rw [vis_length]
    unfold vis ints at hx
    obtain ⟨i, hi, rfl⟩ := List.mem_map.1 hx
    have := (rounds_places l).2 i hi
    omega

theorem visual_calls (A : Option Addr) (c : Nat) (l : List Int) (w : World) (hI : Ints w w.heap.size A l) (hn : l.length ≤ 100) (V : List Int) (HV : Hid (V = vis l)) :
    Calls Try.prog 14 #[.slice A l.length c] w fun e w' => ∃ A' c', e = .returned (.slice A' V.length c') ∧ IntsN w' w.heap.size A' V ∧ Below w.heap.size w w' := by
  go_enter Try.func14, Try.ntmps14
  go_wp2_with fail
  refine (roundsV_calls A c l _ hI hn).mono ?_
  rintro e w' ⟨rfl, hB, hb⟩
  go_wp2_with fail
  go_ret
  have hV := HV.out
  have hB' : Blk w' w.heap.size 3 (ivs V) := by rw [hV]; exact hB
  have hl : l.length = V.length := by rw [hV, vis_length]
  refine ⟨some ⟨w.heap.size, 0, none⟩, l.length, ?_, hB'.intsN (Nat.le_refl _), hb⟩
  rw [← hl]
  rfl

theorem refVisual_calls (A : Option Addr) (c : Nat) (l : List Int) (w : World) (hI : Ints w w.heap.size A l) (hn : l.length ≤ 100) (V : List Int) (HV : Hid (V = vis l)) :
    Calls Try.prog 16 #[.slice A l.length c] w fun e w' => ∃ A' c', e = .returned (.slice A' V.length c') ∧ IntsN w' w.heap.size A' V ∧ Below w.heap.size w w' := by
  go_enter Try.func16, Try.ntmps16
  go_wp2_with fail
  refine (refRounds_calls A c l _ hI hn).mono ?_
  rintro e w' ⟨v, rfl, hO, hb⟩
  have hV := HV.out
  have hO' : w'.ownsRow w.heap.size 3 1 v V.length (ivs V) := by
    rw [hV, vis_length]; exact hO
  obtain ⟨A', c', hv, hI'⟩ := own_intsN hO'
  rw [hv]
  clear hv hV hO' hO
  go_wp2_with fail
  go_ret
  exact ⟨A', c', rfl, hI', hb⟩

theorem turns_calls (A : Option Addr) (c : Nat) (l : List Int) (w : World) (hI : Ints w w.heap.size A l) (hn : l.length ≤ 100) (N : Int) (HN : Hid (N = ((rounds l).2 : Nat))) :
    Calls Try.prog 15 #[.slice A l.length c] w fun e w' => e = .returned (.int .i64 N) ∧ Below w.heap.size w w' := by
  have hI2 := hI.alloc (Nat.le_refl _) (.cells #[.int .i64 0] 3)
  have hB := Blk.new w 3 [.int .i64 0]
  have hc0 := hB.cell 0
  have hf0 := hB.frozen 0
  have hlt := hB.lt
  go_enter Try.func15, Try.ntmps15
  go_wp2_with fail
  refine (roundsT_calls A c l _ w.heap.size hlt hI2 hc0 hf0 hn).mono ?_
  rintro e w' ⟨rfl, hBB, hb, hc⟩
  rw [← HN.out] at hc
  go_wp2_with fail
  go_ret
  exact ⟨rfl, ((Below.refl _ _).alloc (Nat.le_refl _) _).trans hb⟩

theorem refTurns_calls (A : Option Addr) (c : Nat) (l : List Int) (w : World) (hI : Ints w w.heap.size A l) (hn : l.length ≤ 100) (N : Int) (HN : Hid (N = ((rounds l).2 : Nat))) :
    Calls Try.prog 22 #[.slice A l.length c] w fun e w' => e = .returned (.int .i64 N) ∧ Below w.heap.size w w' := by
  go_enter Try.func22, Try.ntmps22
  go_wp2_with fail
  refine (refRounds_calls A c l _ hI hn).mono ?_
  rintro e w' ⟨v, rfl, hO, hb⟩
  rw [← HN.out]
  go_wp2_with fail
  go_ret
  exact ⟨rfl, hb⟩

/-- U leads back out of the order V: so far, for the first k places -/
def Leads (V U : List Int) (k : Nat) : Prop := U.length = V.length ∧ ∀ t x, t < k → V[t]? = some x → U[x.toNat]? = some (t : Int)
theorem leads_step {V U : List Int} {k : Nat} {x : Int} (hV : Perm V) (h : Leads V U k) (hx : V[k]? = some x) : Leads V (U.set x.toNat k) (k + 1) := by
  obtain ⟨h1, h2⟩ := h
  refine ⟨by simpa using h1, fun t y ht hy => ?_⟩
  have hxr := hV.2 x (List.mem_of_getElem? hx)
  have hyr := hV.2 y (List.mem_of_getElem? hy)
  by_cases e : t = k
  · subst e
    rw [hx] at hy
    injection hy with hy
    subst hy
    rw [List.getElem?_set_self (by omega)]
  · rw [List.getElem?_set_ne]
    · exact h2 t y (by omega) hy
    · intro e2
      have hxy : x = y := by omega
      subst hxy
      have htl := (List.getElem?_eq_some_iff.1 hy).1
      exact e ((List.getElem?_inj htl hV.1).1 (hy.trans hx.symm))
theorem leads_unique {V U U' : List Int} (hV : Perm V) (h : Leads V U V.length) (h' : Leads V U' V.length) : U = U' := by
  apply List.ext_getElem?
  intro p
  by_cases hp : p < V.length
  · have := (perm_iff V).1 hV p hp
    obtain ⟨t, ht⟩ := List.getElem?_of_mem this
    have htl := (List.getElem?_eq_some_iff.1 ht).1
    have h1 := h.2 t _ htl ht
    have h2 := h'.2 t _ htl ht
    rw [Int.toNat_natCast] at h1 h2
    rw [h1, h2]
  · rw [List.getElem?_eq_none (by rw [h.1]; omega), List.getElem?_eq_none (by rw [h'.1]; omega)]

theorem logical_calls (A : Option Addr) (c : Nat) (l : List Int) (w : World) (hI : Ints w w.heap.size A l) (hn : l.length ≤ 100) (V : List Int) (HV : Hid (V = vis l)) :
    Calls Try.prog 17 #[.slice A l.length c] w fun e w' => ∃ A' c' U, e = .returned (.slice A' U.length c') ∧ Leads V U V.length ∧ IntsN w' w.heap.size A' U ∧ Below w.heap.size w w' := by
  obtain ⟨i3, hi, hz0, hz1, hz2⟩ := info_parts (show (Try.prog.info? 3).map (fun i => (i.zero, i.size, i.bytes)) = some (some (.int .i64 0), 1, 8) by kernel_rfl)
  have HPM : Hid (Perm V) := by have h := HV.out; rw [h]; exact vis_perm l
  have HLN : Hid (V.length = l.length) := by have h := HV.out; rw [h]; exact vis_length l
  obtain ⟨g, hg⟩ : ∃ g, g = w.heap.size := ⟨_, rfl⟩
  have HG := Lib.hid hg
  go_enter Try.func17, Try.ntmps17
  go_wp2_with (at_make; refine wpList_make_full _ rfl _ _ _ rfl w.heap.size 3 i3 (.int .i64 0) 1 Try.underlying22 hi hz0 hz1 .i64 .i64 l.length l.length l.length rfl rfl rfl rfl (by rw [hz2]; omega) (by unfold maxLen; omega) (Nat.le_refl _) ?_; intro w1 hown hgrow)
  have hb1 : Below w.heap.size w w1 := (Below.refl _ _).grown hgrow (Nat.le_refl _) (by intro k hk; cases hk)
  have hblk := own_blk hown
  rw [zeros_int] at hblk
  rw [← hg] at hblk ⊢
  clear hown hgrow hi hz0 hz1 hz2 hg
  refine (visual_calls A c l _ (hI.on hb1) hn V HV).mono ?_
  rintro e w2 ⟨A', c', rfl, hI2, hb2⟩
  have hB2 := hblk.on hb2
  have hb3 := Below.then_ hb1 hb2
  have hgl := hblk.lt
  have hwg : w.heap.size ≤ g := by have := HG.out; omega
  clear hblk
  have hVl : V.length ≤ 100 := by rw [HLN.out]; exact hn
  have HI2 : Hid (∀ (k : Nat) (x : Int), V[k]? = some x → 0 ≤ x ∧ x < l.length) := by
    intro k x hx
    rw [← HLN.out]
    exact HPM.out.2 x (List.mem_of_getElem? hx)
  go_wp2
  go_loopw [12] (fun i wr => ∃ (k : Nat) (C : List Int), i = .int .i64 k ∧ k ≤ V.length ∧ Blk wr g 3 (ivs C) ∧ Hid (Leads V C k) ∧ Below w.heap.size w wr ∧ IntsN wr w1.heap.size A' V) (fun i _ => V.length - (intOf i).toNat)
  case atStart => exact ⟨0, _, rfl, Nat.zero_le _, hB2, ⟨by rw [HLN.out]; simp, by intro t x ht; omega⟩, hb3, hI2⟩
  case round =>
    obtain ⟨k, C, rfl, hk, hC, HL, hb, hIV⟩ := hrel
    clear hB2 hI2 hb3
    by_cases hlt : k < V.length
    · obtain ⟨b, off, x, rfl, hlo, hlb, hx, hc⟩ := hIV.at_ hlt
      obtain ⟨hx0, hx1⟩ := HI2.out k x hx
      obtain ⟨m, rfl⟩ := Int.eq_ofNat_of_zero_le hx0
      have hm : m < l.length := by omega
      obtain ⟨old, hold⟩ : ∃ old, C[m]? = some old := ⟨_, List.getElem?_eq_getElem (by rw [HL.out.1, HLN.out]; exact hm)⟩
      have hcell : wr.cell? ⟨g, m, none⟩ = some (.int .i64 old) := by rw [hC.cell, ivs_get, hold]; rfl
      have hfz : wr.frozen? ⟨g, m, none⟩ = false := hC.frozen m
      have hC' := hC.set_ m (.int .i64 k)
      rw [ivs_set] at hC'
      have hIV' := hIV.set_ (p := ⟨g, m, none⟩) hgl (.int .i64 k)
      have hls := leads_step HPM.out HL.out hx
      rw [Int.toNat_natCast] at hls
      have HLS := Lib.hid hls
      clear hx hold hls
      go_wp2
      go_roundw
      case rel => exact ⟨k + 1, _, by go_num, by omega, hC', HLS, hb.setCell hwg _, hIV'⟩
      case measure => simp [intOf]; omega
    · have hk2 : k = V.length := by omega
      have HL2 : Hid (Leads V C V.length) := by have h := HL.out; rwa [hk2] at h
      clear hk2
      go_wp2
      go_ret
      refine ⟨some ⟨g, 0, none⟩, l.length, C, ?_, HL2, hC.intsN hwg, hb⟩
      have := HL2.out.1
      rw [this, HLN.out]
      rfl

theorem refLogical_calls (A : Option Addr) (c : Nat) (l : List Int) (w : World) (hI : Ints w w.heap.size A l) (hn : l.length ≤ 100) (V : List Int) (HV : Hid (V = vis l)) :
    Calls Try.prog 18 #[.slice A l.length c] w fun e w' => ∃ A' c' U, e = .returned (.slice A' U.length c') ∧ Leads V U V.length ∧ IntsN w' w.heap.size A' U ∧ Below w.heap.size w w' := by
  obtain ⟨i3, hi, hz0, hz1, hz2⟩ := info_parts (show (Try.prog.info? 3).map (fun i => (i.zero, i.size, i.bytes)) = some (some (.int .i64 0), 1, 8) by kernel_rfl)
  have HPM : Hid (Perm V) := by have h := HV.out; rw [h]; exact vis_perm l
  have HLN : Hid (V.length = l.length) := by have h := HV.out; rw [h]; exact vis_length l
  have hVl : V.length ≤ 100 := by rw [HLN.out]; exact hn
  have HI2 : Hid (∀ (k : Nat) (x : Int), V[k]? = some x → 0 ≤ x ∧ x < V.length) := fun k x hx => HPM.out.2 x (List.mem_of_getElem? hx)
  go_enter Try.func18, Try.ntmps18
  go_wp2_with fail
  refine (refVisual_calls A c l _ hI hn V HV).mono ?_
  rintro e w1 ⟨A', c', rfl, hI1, hb1⟩
  obtain ⟨g, hg⟩ : ∃ g, g = w1.heap.size := ⟨_, rfl⟩
  have HG := Lib.hid hg
  go_wp2_with (at_make; refine wpList_make_full _ rfl _ _ _ rfl w1.heap.size 3 i3 (.int .i64 0) 1 Try.underlying22 hi hz0 hz1 .i64 .i64 V.length V.length V.length rfl rfl rfl rfl (by rw [hz2]; omega) (by unfold maxLen; omega) (Nat.le_refl _) ?_; intro w2 hown hgrow)
  have hb2 : Below w1.heap.size w1 w2 := (Below.refl _ _).grown hgrow (Nat.le_refl _) (by intro k hk; cases hk)
  have hB2 := own_blk hown
  rw [zeros_int] at hB2
  rw [← hg] at hB2 ⊢
  clear hown hgrow hi hz0 hz1 hz2 hg
  have hb3 := Below.then_ hb1 hb2
  have hs1 := hb1.size
  have hwg : w.heap.size ≤ g := by have := HG.out; omega
  have hg1 : w1.heap.size ≤ g := by have := HG.out; omega
  have hI2 := hI1.ints.below hb2
  go_loopw [5] (fun i wr => ∃ (k : Nat) (C : List Int), i = .int .i64 k ∧ k ≤ V.length ∧ Blk wr g 3 (ivs C) ∧ Hid (Leads V C k) ∧ Below w.heap.size w wr ∧ Ints wr w1.heap.size A' V) (fun i _ => V.length - (intOf i).toNat)
  case atStart => exact ⟨0, _, rfl, Nat.zero_le _, hB2, ⟨by simp, by intro t x ht; omega⟩, hb3, hI2⟩
  case round =>
    obtain ⟨k, C, rfl, hk, hC, HL, hb, hIV⟩ := hrel
    clear hB2 hI2 hb3
    by_cases hlt : k < V.length
    · obtain ⟨b, off, x, rfl, hlb, hx, hc⟩ := hIV.at_ hlt
      obtain ⟨hx0, hx1⟩ := HI2.out k x hx
      obtain ⟨m, rfl⟩ := Int.eq_ofNat_of_zero_le hx0
      have hm : m < V.length := by omega
      obtain ⟨old, hold⟩ : ∃ old, C[m]? = some old := ⟨_, List.getElem?_eq_getElem (by rw [HL.out.1]; exact hm)⟩
      have hcell : wr.cell? ⟨g, m, none⟩ = some (.int .i64 old) := by rw [hC.cell, ivs_get, hold]; rfl
      have hfz : wr.frozen? ⟨g, m, none⟩ = false := hC.frozen m
      have hC' := hC.set_ m (.int .i64 k)
      rw [ivs_set] at hC'
      have hIV' : Ints (wr.setCell ⟨g, m, none⟩ (.int .i64 k)) w1.heap.size (some ⟨b, off, none⟩) V := hIV.keep fun p hp => World.cell?_setCell_other _ _ _ _ (by intro e; subst e; exact absurd hp (by show ¬ g < w1.heap.size; omega))
      have hls := leads_step HPM.out HL.out hx
      rw [Int.toNat_natCast] at hls
      have HLS := Lib.hid hls
      clear hx hold hls
      go_wp2
      go_roundw
      case rel => exact ⟨k + 1, _, by go_num, by omega, hC', HLS, hb.setCell hwg _, hIV'⟩
      case measure => simp [intOf]; omega
    · have hk2 : k = V.length := by omega
      have HL2 : Hid (Leads V C V.length) := by have h := HL.out; rwa [hk2] at h
      clear hk2
      go_wp2
      go_ret
      refine ⟨some ⟨g, 0, none⟩, V.length, C, ?_, HL2, hC.intsN hwg, hb⟩
      have := HL2.out.1
      rw [this]
      rfl
end Go.Proofs.Ytlcijmllffablaa
