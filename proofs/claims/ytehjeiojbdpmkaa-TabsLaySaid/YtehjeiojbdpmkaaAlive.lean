/-
  The law's closed examples ('alive') are true.
-/
import Derived.Test.YtehjeiojbdpmkaaLayB
import Derived.Test.YtehjeiojbdpmkaaSame
namespace Go.Proofs.Ytehjeiojbdpmkaa
open Go.RowKit

theorem lit_ints (w : World) (l : List Int) : Ints (w.alloc (.cells (ivs l).toArray 3)) (w.heap.size + 1) (some ⟨w.heap.size, 0, none⟩) l := by
  have h := (Blk.new w 3 (ivs l)).ints
  simpa using h
theorem tabs_lit {w : World} {g : Nat} {a k : Int} (hg : g < w.heap.size) (h0 : w.cell? ⟨g, 0, none⟩ = some (.int .i64 a)) (h1 : w.cell? ⟨g, 1, none⟩ = some (.int .i64 k)) : Tabs w w.heap.size (some ⟨g, 0, none⟩) [(a, k)] := by
  refine .inr ⟨g, 0, rfl, hg, fun i x hx => ?_⟩
  have hi := (List.getElem?_eq_some_iff.1 hx).1
  have : i = 0 := by simpa using hi
  subst this
  simp at hx
  subst hx
  exact ⟨by simpa using h0, by simpa using h1⟩

theorem lay_lit (w : World) (g : Nat) (hT5 : Tabs w w.heap.size (some ⟨g, 0, none⟩) [(30, 1)]) : Calls Try.prog 14
    #[.slice (some ⟨g, 0, none⟩) 1 1, .int .i64 48, .slice (some ⟨w.heap.size, 0, none⟩) 2 2, .slice none 0 0] (w.alloc (.cells #[.int .i64 5, .int .i64 10] 3)) fun e w' => ∃ A c, e = .returned (.slice A 2 c) ∧ Ints w' w'.heap.size A [0, 20] ∧ Below w.heap.size w w' := by
  have hfl : Hid (FarT [((30 : Int), (1 : Int))]) := by intro t ht; simp at ht; subst ht; exact ⟨by decide, by decide⟩
  have hfw : Hid (FarL [5, 10]) := by intro t ht; simp at ht; rcases ht with rfl | rfl <;> exact ⟨by decide, by decide⟩
  have hfz : Hid (FarL []) := by intro t ht; simp at ht
  have hT : Tabs (w.alloc (.cells #[.int .i64 5, .int .i64 10] 3)) (w.alloc (.cells #[.int .i64 5, .int .i64 10] 3)).heap.size (some ⟨g, 0, none⟩) [(30, 1)] := hT5.on ((Below.refl _ _).alloc (Nat.le_refl _) _)
  have hL : Ints (w.alloc (.cells #[.int .i64 5, .int .i64 10] 3)) (w.alloc (.cells #[.int .i64 5, .int .i64 10] 3)).heap.size (some ⟨w.heap.size, 0, none⟩) [5, 10] := by simpa [ivs] using lit_ints w [5, 10]
  refine (lay_calls _ 1 [(30, 1)] 48 _ 2 [5, 10] none 0 [] _ hT hL (.inl rfl) (by decide) (by decide) hfl (by decide) hfw hfz).mono ?_
  rintro e w6 ⟨v6, rfl, hO6, hz60⟩
  rw [show layL [(30, 1)] 48 [5, 10] [] = [0, 20] from by decide] at hO6
  obtain ⟨A6, c6, rfl, hI6⟩ := own_ints (l := [0, 20]) hO6
  exact ⟨A6, c6, rfl, hI6, ((Below.refl _ _).alloc (Nat.le_refl _) _).trans (hz60.mono (by simp))⟩
theorem same_lit (w : World) (A : Option Addr) (c : Nat) (hI6 : Ints w w.heap.size A [0, 20]) : Calls Try.prog 15
    #[.slice A 2 c, .slice (some ⟨w.heap.size, 0, none⟩) 2 2] (w.alloc (.cells #[.int .i64 0, .int .i64 20] 3)) fun e w' => e = .returned (.bool true) ∧ Below w.heap.size w w' := by
  have h1 : Ints (w.alloc (.cells #[.int .i64 0, .int .i64 20] 3)) (w.alloc (.cells #[.int .i64 0, .int .i64 20] 3)).heap.size A [0, 20] := by simpa using (hI6.alloc (Nat.le_refl _) (.cells #[.int .i64 0, .int .i64 20] 3)).more (show w.heap.size ≤ w.heap.size + 1 by omega)
  have h2 : Ints (w.alloc (.cells #[.int .i64 0, .int .i64 20] 3)) (w.alloc (.cells #[.int .i64 0, .int .i64 20] 3)).heap.size (some ⟨w.heap.size, 0, none⟩) [0, 20] := by simpa [ivs] using lit_ints w [0, 20]
  refine (same_below A _ c 2 [0, 20] [0, 20] _ h1 h2 (by decide) true (by unfold Hid; decide)).mono ?_
  rintro e w7 ⟨rfl, hz70⟩
  exact ⟨rfl, ((Below.refl _ _).alloc (Nat.le_refl _) _).trans (hz70.mono (by simp))⟩

theorem two_blocks (w : World) (a b : List Int) : Ints ((w.alloc (.cells (ivs a).toArray 3)).alloc (.cells (ivs b).toArray 3)) (w.heap.size + 1 + 1) (some ⟨w.heap.size, 0, none⟩) a ∧ Ints ((w.alloc (.cells (ivs a).toArray 3)).alloc (.cells (ivs b).toArray 3)) (w.heap.size + 1 + 1) (some ⟨w.heap.size + 1, 0, none⟩) b := by
  constructor
  · exact ((lit_ints w a).alloc (by simp) _).more (by omega)
  · have h := lit_ints (w.alloc (.cells (ivs a).toArray 3)) b
    simpa using h
theorem lay_gen (w : World) (g b : Nat) (hT : Tabs w w.heap.size (some ⟨g, 0, none⟩) [(30, 1)]) (hL : Ints w w.heap.size (some ⟨b, 0, none⟩) [5, 10]) : Calls Try.prog 14
    #[.slice (some ⟨g, 0, none⟩) 1 1, .int .i64 48, .slice (some ⟨b, 0, none⟩) 2 2, .slice none 0 0] w fun e w' => ∃ A c, e = .returned (.slice A 2 c) ∧ Ints w' w'.heap.size A [0, 20] ∧ Below w.heap.size w w' := by
  have hfl : Hid (FarT [((30 : Int), (1 : Int))]) := by intro t ht; simp at ht; subst ht; exact ⟨by decide, by decide⟩
  have hfw : Hid (FarL [5, 10]) := by intro t ht; simp at ht; rcases ht with rfl | rfl <;> exact ⟨by decide, by decide⟩
  have hfz : Hid (FarL []) := by intro t ht; simp at ht
  refine (lay_calls _ 1 [(30, 1)] 48 _ 2 [5, 10] none 0 [] _ hT hL (.inl rfl) (by decide) (by decide) hfl (by decide) hfw hfz).mono ?_
  rintro e w6 ⟨v6, rfl, hO6, hz60⟩
  rw [show layL [(30, 1)] 48 [5, 10] [] = [0, 20] from by decide] at hO6
  obtain ⟨A6, c6, rfl, hI6⟩ := own_ints (l := [0, 20]) hO6
  exact ⟨A6, c6, rfl, hI6, hz60⟩
theorem lay_lit2 (w : World) (g : Nat) (hT5 : Tabs w w.heap.size (some ⟨g, 0, none⟩) [(30, 1)]) : Calls Try.prog 14
    #[.slice (some ⟨g, 0, none⟩) 1 1, .int .i64 48, .slice (some ⟨w.heap.size, 0, none⟩) 2 2, .slice none 0 0] ((w.alloc (.cells #[.int .i64 5, .int .i64 10] 3)).alloc (.cells #[.int .i64 0, .int .i64 20] 3)) fun e w' => ∃ A c, e = .returned (.slice A 2 c) ∧ Ints w' w'.heap.size A [0, 20] ∧ Ints w' w'.heap.size (some ⟨w.heap.size + 1, 0, none⟩) [0, 20] ∧ Below w.heap.size w w' := by
  have hb : Below w.heap.size w ((w.alloc (.cells #[.int .i64 5, .int .i64 10] 3)).alloc (.cells #[.int .i64 0, .int .i64 20] 3)) := ((Below.refl _ _).alloc (Nat.le_refl _) _).alloc (by simp) _
  obtain ⟨h1, h2⟩ := two_blocks w [5, 10] [0, 20]
  refine (lay_gen _ g w.heap.size (hT5.on hb) (by simpa [ivs] using h1)).mono ?_
  rintro e w6 ⟨A, c, rfl, hI, hz⟩
  refine ⟨A, c, rfl, hI, Ints.on (w := (w.alloc (.cells #[.int .i64 5, .int .i64 10] 3)).alloc (.cells #[.int .i64 0, .int .i64 20] 3)) (by simpa [ivs] using h2) hz, hb.trans (hz.mono hb.size)⟩
theorem lay_lit3 (w : World) (g : Nat) (hT5 : Tabs w w.heap.size (some ⟨g, 0, none⟩) [(30, 1)]) : Calls Try.prog 14
    #[.slice (some ⟨g, 0, none⟩) 1 1, .int .i64 48, .slice (some ⟨w.heap.size + 1, 0, none⟩) 2 2, .slice none 0 0] ((w.alloc (.cells #[.int .i64 0, .int .i64 20] 3)).alloc (.cells #[.int .i64 5, .int .i64 10] 3)) fun e w' => ∃ A c, e = .returned (.slice A 2 c) ∧ Ints w' w'.heap.size A [0, 20] ∧ Ints w' w'.heap.size (some ⟨w.heap.size, 0, none⟩) [0, 20] ∧ Below w.heap.size w w' := by
  have hb : Below w.heap.size w ((w.alloc (.cells #[.int .i64 0, .int .i64 20] 3)).alloc (.cells #[.int .i64 5, .int .i64 10] 3)) := ((Below.refl _ _).alloc (Nat.le_refl _) _).alloc (by simp) _
  obtain ⟨h1, h2⟩ := two_blocks w [0, 20] [5, 10]
  refine (lay_gen _ g (w.heap.size + 1) (hT5.on hb) (by simpa [ivs] using h2)).mono ?_
  rintro e w6 ⟨A, c, rfl, hI, hz⟩
  refine ⟨A, c, rfl, hI, Ints.on (w := (w.alloc (.cells #[.int .i64 0, .int .i64 20] 3)).alloc (.cells #[.int .i64 5, .int .i64 10] 3)) (by simpa [ivs] using h1) hz, hb.trans (hz.mono hb.size)⟩
theorem same_two (w : World) (A : Option Addr) (c b : Nat) (hI : Ints w w.heap.size A [0, 20]) (hJ : Ints w w.heap.size (some ⟨b, 0, none⟩) [0, 20]) : Calls Try.prog 15
    #[.slice A 2 c, .slice (some ⟨b, 0, none⟩) 2 2] w fun e w' => e = .returned (.bool true) ∧ Below w.heap.size w w' :=
  same_below A _ c 2 [0, 20] [0, 20] _ hI hJ (by decide) true (by unfold Hid; decide)

set_option maxHeartbeats 40000000 in
theorem alive_calls (w : World) : Calls Try.prog 9 #[] w fun e w' => e = .returned (.bool true) ∧ Below w.heap.size w w' := by
  have hbb : Below w.heap.size w (w.alloc (.cells #[.int .i64 30, .int .i64 1] 29)) := (Below.refl _ _).alloc (Nat.le_refl _) _
  have hbx : Blk (w.alloc (.cells #[.int .i64 30, .int .i64 1] 29)) w.heap.size 29 [.int .i64 30, .int .i64 1] := Blk.new w 29 _
  have e0 := hbx.cell 0
  have e1 := hbx.cell 1
  have hg0 := hbx.lt
  clear hbx
  have hfl : Hid (FarT [((30 : Int), (1 : Int))]) := by intro t ht; simp at ht; subst ht; exact ⟨by decide, by decide⟩
  have hfw : Hid (FarL [5, 10]) := by intro t ht; simp at ht; rcases ht with rfl | rfl <;> exact ⟨by decide, by decide⟩
  have hfz : Hid (FarL []) := by intro t ht; simp at ht
  go_enter Try.func9, Try.ntmps9
  go_wp2_with fail
  generalize w.alloc (.cells #[.int .i64 30, .int .i64 1] 29) = w0 at *
  have hT0 : Tabs w0 w0.heap.size (some ⟨w.heap.size, 0, none⟩) [(30, 1)] := tabs_lit hg0 e0 e1
  have hS0 : w0.cell? ⟨w.heap.size, 0, none⟩ = some (.int .i64 30) ∧ w0.cell? ⟨w.heap.size, 1, none⟩ = some (.int .i64 1) := ⟨e0, e1⟩
  clear hS0
  have N1 : ∀ w', Tabs w' w'.heap.size (some ⟨w.heap.size, 0, none⟩) [(30, 1)] → Calls Try.prog 10 #[.slice (some ⟨w.heap.size, 0, none⟩) 1 1, .int .i64 48, .int .i64 0] w' fun e w'' => e = .returned (.agg #[.int .i64 30, .int .i64 1]) ∧ Below w'.heap.size w' w'' := fun w' h => next_calls _ 1 [(30, 1)] 48 0 w' h (by decide) (by decide) (by decide) (by decide) 30 1 (by unfold Hid; decide)
  have N2 : ∀ w', Tabs w' w'.heap.size (some ⟨w.heap.size, 0, none⟩) [(30, 1)] → Calls Try.prog 10 #[.slice (some ⟨w.heap.size, 0, none⟩) 1 1, .int .i64 48, .int .i64 30] w' fun e w'' => e = .returned (.agg #[.int .i64 48, .int .i64 0]) ∧ Below w'.heap.size w' w'' := fun w' h => next_calls _ 1 [(30, 1)] 48 30 w' h (by decide) (by decide) (by decide) (by decide) 48 0 (by unfold Hid; decide)
  have N3 : ∀ w', Tabs w' w'.heap.size (some ⟨w.heap.size, 0, none⟩) [(30, 1)] → Calls Try.prog 10 #[.slice (some ⟨w.heap.size, 0, none⟩) 1 1, .int .i64 48, .int .i64 48] w' fun e w'' => e = .returned (.agg #[.int .i64 96, .int .i64 0]) ∧ Below w'.heap.size w' w'' := fun w' h => next_calls _ 1 [(30, 1)] 48 48 w' h (by decide) (by decide) (by decide) (by decide) 96 0 (by unfold Hid; decide)
  have P1 : ∀ w', Calls Try.prog 12 #[.agg #[.int .i64 30, .int .i64 1], .int .i64 0, .int .i64 10, .int .i64 10] w' fun e w'' => e = .returned (.int .i64 20) ∧ Below w'.heap.size w' w'' := fun w' => place_calls 30 1 0 10 10 w' (by decide) (by decide) (by decide) (by decide) (by decide) (by decide) 20 (by unfold Hid; decide)
  have P2 : ∀ w', Calls Try.prog 12 #[.agg #[.int .i64 30, .int .i64 1], .int .i64 0, .int .i64 40, .int .i64 40] w' fun e w'' => e = .returned (.int .i64 0) ∧ Below w'.heap.size w' w'' := fun w' => place_calls 30 1 0 40 40 w' (by decide) (by decide) (by decide) (by decide) (by decide) (by decide) 0 (by unfold Hid; decide)
  have hf1 : ∀ w : World, (Instr.field 29 (.agg #[.int .i64 48, .int .i64 0]) 0).run Try.prog w = .ok (.int .i64 48) w := fun _ => by kernel_rfl
  have hf2 : ∀ w : World, (Instr.field 29 (.agg #[.int .i64 96, .int .i64 0]) 0).run Try.prog w = .ok (.int .i64 96) w := fun _ => by kernel_rfl
  have HN1 := Lib.hid N1
  have HN2 := Lib.hid N2
  have HN3 := Lib.hid N3
  have HP1 := Lib.hid P1
  have HP2 := Lib.hid P2
  clear N1 N2 N3 P1 P2
  go_region_held3 (fun w' => w'.cell? ⟨w.heap.size, 0, none⟩ = some (.int .i64 30) ∧ w'.cell? ⟨w.heap.size, 1, none⟩ = some (.int .i64 1)) (go_keep) (first | (go_at_call 10; (with_reducible refine (HN1.out _ ?_).mono ?_); exact hT0; rintro e w1 ⟨rfl, hz1⟩; have hb1 : Below w0.heap.size w0 w1 := ⟨hz1.os, hz1.tape, hz1.output, hz1.size, hz1.block⟩; clear hz1; have hg1 := Nat.lt_of_lt_of_le hg0 hb1.size; have f01 := (hb1.cell (p := ⟨w.heap.size, 0, none⟩) hg0).trans e0; have f11 := (hb1.cell (p := ⟨w.heap.size, 1, none⟩) hg0).trans e1; have hT1 := hT0.on hb1) | (go_at_call 10; (with_reducible refine (HN2.out _ ?_).mono ?_); exact hT1; rintro e w2 ⟨rfl, hz2⟩; have hb2 : Below w1.heap.size w1 w2 := ⟨hz2.os, hz2.tape, hz2.output, hz2.size, hz2.block⟩; clear hz2; have hg2 := Nat.lt_of_lt_of_le hg1 hb2.size; have f02 := (hb2.cell (p := ⟨w.heap.size, 0, none⟩) hg1).trans f01; have f12 := (hb2.cell (p := ⟨w.heap.size, 1, none⟩) hg1).trans f11; have hT2 := hT1.on hb2) | (go_at_call 10; (with_reducible refine (HN3.out _ ?_).mono ?_); exact hT2; rintro e w3 ⟨rfl, hz3⟩; have hb3 : Below w2.heap.size w2 w3 := ⟨hz3.os, hz3.tape, hz3.output, hz3.size, hz3.block⟩; clear hz3; have hg3 := Nat.lt_of_lt_of_le hg2 hb3.size; have f03 := (hb3.cell (p := ⟨w.heap.size, 0, none⟩) hg2).trans f02; have f13 := (hb3.cell (p := ⟨w.heap.size, 1, none⟩) hg2).trans f12; have hT3 := hT2.on hb3) | (go_at_call 12; (with_reducible refine (HP1.out _).mono ?_); rintro e w4 ⟨rfl, hz4⟩; have hb4 : Below w3.heap.size w3 w4 := ⟨hz4.os, hz4.tape, hz4.output, hz4.size, hz4.block⟩; clear hz4; have hg4 := Nat.lt_of_lt_of_le hg3 hb4.size; have f04 := (hb4.cell (p := ⟨w.heap.size, 0, none⟩) hg3).trans f03; have f14 := (hb4.cell (p := ⟨w.heap.size, 1, none⟩) hg3).trans f13; have hT4 := hT3.on hb4) | (go_at_call 12; (with_reducible refine (HP2.out _).mono ?_); rintro e w5 ⟨rfl, hz5⟩; have hb5 : Below w4.heap.size w4 w5 := ⟨hz5.os, hz5.tape, hz5.output, hz5.size, hz5.block⟩; clear hz5; have hg5 := Nat.lt_of_lt_of_le hg4 hb5.size; have f05 := (hb5.cell (p := ⟨w.heap.size, 0, none⟩) hg4).trans f04; have f15 := (hb5.cell (p := ⟨w.heap.size, 1, none⟩) hg4).trans f14; have hT5 := hT4.on hb5) | (go_at_call 14; (with_reducible refine (lay_lit w5 w.heap.size ?_).mono ?_); exact hT5; rintro e w6 ⟨A6, c6, rfl, hI6, hz6⟩; have hb6 : Below w5.heap.size w5 w6 := ⟨hz6.os, hz6.tape, hz6.output, hz6.size, hz6.block⟩; clear hz6; have hg6 := Nat.lt_of_lt_of_le hg5 hb6.size; have f06 := (hb6.cell (p := ⟨w.heap.size, 0, none⟩) hg5).trans f05; have f16 := (hb6.cell (p := ⟨w.heap.size, 1, none⟩) hg5).trans f15; have hT6 := hT5.on hb6) | (go_at_call 14; (with_reducible refine (lay_lit2 w5 w.heap.size ?_).mono ?_); exact hT5; rintro e w6 ⟨A6, c6, rfl, hI6, hJ6, hz6⟩; have hb6 : Below w5.heap.size w5 w6 := ⟨hz6.os, hz6.tape, hz6.output, hz6.size, hz6.block⟩; clear hz6; have hg6 := Nat.lt_of_lt_of_le hg5 hb6.size; have f06 := (hb6.cell (p := ⟨w.heap.size, 0, none⟩) hg5).trans f05; have f16 := (hb6.cell (p := ⟨w.heap.size, 1, none⟩) hg5).trans f15; have hT6 := hT5.on hb6) | (go_at_call 14; (with_reducible refine (lay_lit3 w5 w.heap.size ?_).mono ?_); exact hT5; rintro e w6 ⟨A6, c6, rfl, hI6, hJ6, hz6⟩; have hb6 : Below w5.heap.size w5 w6 := ⟨hz6.os, hz6.tape, hz6.output, hz6.size, hz6.block⟩; clear hz6; have hg6 := Nat.lt_of_lt_of_le hg5 hb6.size; have f06 := (hb6.cell (p := ⟨w.heap.size, 0, none⟩) hg5).trans f05; have f16 := (hb6.cell (p := ⟨w.heap.size, 1, none⟩) hg5).trans f15; have hT6 := hT5.on hb6) | (go_at_call 15; (with_reducible refine (same_lit w6 A6 c6 ?_).mono ?_); exact hI6; rintro e w7 ⟨rfl, hz7⟩; have hb7 : Below w6.heap.size w6 w7 := ⟨hz7.os, hz7.tape, hz7.output, hz7.size, hz7.block⟩; clear hz7; have hg7 := Nat.lt_of_lt_of_le hg6 hb7.size; have f07 := (hb7.cell (p := ⟨w.heap.size, 0, none⟩) hg6).trans f06; have f17 := (hb7.cell (p := ⟨w.heap.size, 1, none⟩) hg6).trans f16; have hT7 := hT6.on hb7) | (go_at_call 15; refine (same_two w6 A6 c6 _ hI6 hJ6).mono ?_; rintro e w7 ⟨rfl, hz7⟩; have hb7 : Below w6.heap.size w6 w7 := ⟨hz7.os, hz7.tape, hz7.output, hz7.size, hz7.block⟩; clear hz7; have hg7 := Nat.lt_of_lt_of_le hg6 hb7.size; have f07 := (hb7.cell (p := ⟨w.heap.size, 0, none⟩) hg6).trans f06; have f17 := (hb7.cell (p := ⟨w.heap.size, 1, none⟩) hg6).trans f16; have hT7 := hT6.on hb7))
  all_goals
    go_wp2_with fail
    go_ret
    exact ⟨rfl, Below.then_ (Below.then_ (Below.then_ (Below.then_ (Below.then_ (Below.then_ (hbb.trans (hb1.mono (Nat.le_of_lt hg0))) hb2) hb3) hb4) hb5) hb6) hb7⟩
end Go.Proofs.Ytehjeiojbdpmkaa
