/-
  The contract of 'Neutral' at every slice; the law's closed examples ('alive') are true.
-/
import Derived.Test.YthlmbmopdjnjaaaNeutral
import Derived.Test.YthlmbmopdjnjaaaImpl
import Derived.Test.YthlmbmopdjnjaaaSame
namespace Go.Proofs.Ythlmbmopdjnjaaa
open Go.RowKit

theorem neutral_calls (A : Option Addr) (c : Nat) (l : List Int) (lv sos eos : Int) (w : World) (hI : Ints w w.heap.size A l) (hn : l.length ≤ 200) :
    Calls Try.prog 9 #[.slice A l.length c, .int .i64 lv, .int .i64 sos, .int .i64 eos] w fun e w' => ∃ v, e = .returned v ∧ w'.ownsRow w.heap.size 3 1 v l.length (ivs (neuL l lv sos eos)) ∧ Below w.heap.size w w' := by
  rcases Nat.eq_zero_or_pos l.length with h0 | h0
  · have hl : l = [] := List.eq_nil_of_length_eq_zero h0
    subst hl
    obtain ⟨i3, hi, hz0, hz1, hz2⟩ := info_parts (show (Try.prog.info? 3).map (fun i => (i.zero, i.size, i.bytes)) = some (some (.int .i64 0), 1, 8) by kernel_rfl)
    go_enter Try.func9, Try.ntmps9
    go_wp2_with (at_builtin; refine wpList_append_empty _ rfl _ _ 22 rfl 3 i3 Try.underlying22 hi rfl A c rfl ?_)
    go_loopw [10] (fun a wr => a = .int .i64 0 ∧ wr = w) (fun _ _ => 0)
    case atStart => exact ⟨rfl, rfl⟩
    case round =>
      obtain ⟨rfl, rfl⟩ := hrel
      go_wp2
      go_ret
      exact ⟨_, rfl, World.ownsRow_nil _ _ _ _, Below.refl _ _⟩
  · rcases hI with hI | ⟨b, off, rfl, hb, hc⟩
    · rw [hI] at h0; simp at h0
    · exact neutral_full b off c l lv sos eos w (.inr ⟨b, off, rfl, hb, hc⟩) hn h0

theorem lit_ints (w : World) (l : List Int) : Ints (w.alloc (.cells (ivs l).toArray 3)) (w.heap.size + 1) (some ⟨w.heap.size, 0, none⟩) l := by
  have h := (Blk.new w 3 (ivs l)).ints
  simpa using h

theorem alive_calls (w : World) : Calls Try.prog 7 #[] w fun e w' => e = .returned (.bool true) ∧ Below w.heap.size w w' := by
  go_enter Try.func7, Try.ntmps7
  go_wp2_with fail
  refine (neutral_calls _ _ [2, 13, 4] 0 1 1 _ (by simpa [ivs] using lit_ints w [2, 13, 4]) (by decide)).mono ?_
  rintro e w1 ⟨v1, rfl, hO1, hb1⟩
  have hb1' : Below w.heap.size w w1 := ((Below.refl _ _).alloc (Nat.le_refl _) _).trans (hb1.mono (by simp))
  rw [show neuL [2, 13, 4] 0 1 1 = [2, 2, 4] from by decide] at hO1
  obtain ⟨A1, c1, rfl, hI1⟩ := own_ints (l := [2, 2, 4]) hO1
  clear hO1 hb1
  go_wp2_with fail
  refine (implicit_calls _ _ [1, 2, 4] 0 _ (by simpa [ivs] using lit_ints w1 [1, 2, 4]) (by decide) (by decide) (by decide)).mono ?_
  rintro e w2 ⟨v2, rfl, hO2, hb2⟩
  have hb2' : Below w1.heap.size w1 w2 := ((Below.refl _ _).alloc (Nat.le_refl _) _).trans (hb2.mono (by simp))
  rw [show implL [1, 2, 4] 0 = [0, 1, 2] from by decide] at hO2
  obtain ⟨A2, c2, rfl, hI2⟩ := own_ints (l := [0, 1, 2]) hO2
  have hI1' := hI1.on hb2'
  have hbb := Below.then_ hb1' hb2'
  clear hO2 hb2 hI1 hb1' hb2'
  go_wp2_with fail
  refine (same_below A1 _ c1 _ [2, 2, 4] [2, 2, 4] _ (by simpa using (hI1'.alloc (Nat.le_refl _) _).more (by simp)) (by simpa [ivs] using lit_ints w2 [2, 2, 4]) (by decide) true (by unfold Hid; decide)).mono ?_
  rintro e w3 ⟨rfl, hb3⟩
  have hb3' : Below w2.heap.size w2 w3 := ((Below.refl _ _).alloc (Nat.le_refl _) _).trans (hb3.mono (by simp))
  have hI2' := hI2.on hb3'
  have hbc := Below.then_ hbb hb3'
  clear hb3 hI2 hI1' hbb hb3'
  go_wp2_with fail
  refine (same_below A2 _ c2 _ [0, 1, 2] [0, 1, 2] _ (by simpa using (hI2'.alloc (Nat.le_refl _) _).more (by simp)) (by simpa [ivs] using lit_ints w3 [0, 1, 2]) (by decide) true (by unfold Hid; decide)).mono ?_
  rintro e w4 ⟨rfl, hb4⟩
  have hb4' : Below w3.heap.size w3 w4 := ((Below.refl _ _).alloc (Nat.le_refl _) _).trans (hb4.mono (by simp))
  have hbd := Below.then_ hbc hb4'
  clear hb4 hI2' hbc hb4'
  go_wp2_with fail
  refine (embed_calls 3 2 (by unfold Hid; decide) _).mono ?_
  rintro e w5 ⟨rfl, rfl⟩
  go_wp2_with fail
  go_ret
  exact ⟨rfl, hbd⟩
end Go.Proofs.Ythlmbmopdjnjaaa
