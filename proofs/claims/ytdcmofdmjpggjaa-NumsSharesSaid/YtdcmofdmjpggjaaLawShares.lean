/-
  NumsShares: Share of the program and of the reference give the same shares, of any total and of weights whose sum is an int. No condition.
  The frame (but for the walk and the lemmas ahead of it) was written by the kit's program proof-skeleton.mjs.
-/
import Derived.Test.YtdcmofdmjpggjaaRefShare
import Derived.Test.YtdcmofdmjpggjaaSame
import Derived.Test.YtdcmofdmjpggjaaRows
import Derived.WalkKit
import Derived.ProofKit
import Derived.OpenShut
import Derived.ShutString
import Derived.ChangeOld
import Derived.Below
namespace Go.Proofs.Ytdcmofdmjpggjaa.numsShares
open Go.ChangeShapes Go.WideShapes Go.ChangeAt Go.RowKit
open Go.ChangeMaps (open_string shut_string)
set_option linter.unusedVariables false

theorem own : ownKnob Try.prog.godebug = none := by kernel_rfl
theorem laidOut : laidOutB Try.prog = true := by kernel_rfl

/-- WHAT THE WALK IS TOLD OF A SLICE OF INTEGERS THAT CAME IN: it is nil; or it leads to a row of 'cap' cells, the numbers 'zs' (the first 'len' are its elements, the rest its spare room), each fitting its kind. -/
def IsRow (k : IntKind) (w : World) (a : Option Addr) (len cap : Nat) (zs : List Int) : Prop :=
  (a = none ∧ len = 0 ∧ cap = 0 ∧ zs = []) ∨
  ∃ x, a = some x ∧ len ≤ cap ∧ cap ≤ maxLen ∧ zs.length = cap ∧ (∀ i, i < zs.length → w.cell? (x.add i) = some (.int k (zs.getD i 0))) ∧ ∀ n ∈ zs, (Lit.int k n).wf = true

theorem block_lt {w : World} {x : Addr} {v : Value} (h : w.cell? x = some v) : x.block < w.heap.size := World.block_lt_of_cell? w x h
/-- what came in, as a list -/
theorem view {w : World} {a : Option Addr} {len cap : Nat} {zs : List Int} (h : IsRow .i64 w a len cap zs) :
    ∃ l : List Int, len = l.length ∧ Ints w w.heap.size a l ∧ ∀ x ∈ l, -9223372036854775808 ≤ x ∧ x ≤ 9223372036854775807 := by
  rcases h with ⟨rfl, rfl, rfl, rfl⟩ | ⟨x, rfl, hl, hm, hz, hcell, hwz⟩
  · exact ⟨[], rfl, .inl rfl, by simp⟩
  · refine ⟨zs.take len, by rw [List.length_take]; omega, ?_, fun y hy => bounds_i64 (hwz y (List.mem_of_mem_take hy))⟩
    rcases Nat.eq_zero_or_pos len with h0 | h0
    · subst h0
      exact .inl (by simp)
    · obtain ⟨b, off, spot⟩ := x
      have hc := hcell 0 (by omega)
      have hspot : spot = none := by simpa [Addr.add] using World.cell?_spot hc
      subst hspot
      refine .inr ⟨b, off, rfl, by simpa [Addr.add] using block_lt hc, fun k y hy => ?_⟩
      rw [List.getElem?_take] at hy
      split at hy
      · have hk := hcell k (by omega)
        rw [List.getD_eq_getElem?_getD, hy] at hk
        simpa [Addr.add_lit] using hk
      · cases hy

set_option maxHeartbeats 1000000 in
theorem walk (a0 : Int) (a1 : Option Addr) (len1 cap1 : Nat) (z1 : List Int) (w : World) (w0 : (Lit.int .i64 a0).wf = true) (w1 : IsRow .i64 w a1 len1 cap1 z1) :
    Calls Try.prog 8 #[.int .i64 a0, .slice a1 len1 cap1] w fun e w' => e = .returned (.bool true) ∧ Below w.heap.size w w' := by
  obtain ⟨t1, t2⟩ := bounds_i64 w0
  obtain ⟨l, rfl, hI, hlb⟩ := view w1
  clear w0 w1
  rcases Nat.lt_or_ge 40 l.length with hn | hn
  · have hi : (40 : Int) < (l.length : Int) := by omega
    clear t1 t2 hlb
    go_enter Try.func8, Try.ntmps8
    go_wp2_with fail
    go_ret
    exact ⟨rfl, Below.refl _ _⟩
  · have hi : ¬ (40 : Int) < (l.length : Int) := by omega
    obtain ⟨b, hb⟩ : ∃ b, b = roomB l := ⟨_, rfl⟩
    have C0 : Hid (∀ w : World, Ints w w.heap.size a1 l → Calls Try.prog 19 #[.slice a1 l.length cap1] w fun e w' => e = .returned (.bool b) ∧ w = w') := fun w h => room_calls a1 cap1 l w h (by omega) hlb b hb
    cases b with
    | false =>
      clear t1 t2 hlb hb
      go_enter Try.func8, Try.ntmps8
      go_wp2_with fail
      refine (C0.out _ hI).mono ?_
      rintro e w' ⟨rfl, rfl⟩
      go_wp2_with fail
      go_ret
      exact ⟨rfl, Below.refl _ _⟩
    | true =>
      have hs : sm l ≤ 9223372036854775807 := of_decide_eq_true hb.symm
      obtain ⟨N, hN⟩ : ∃ N, N = shareL a0 l := ⟨_, rfl⟩
      have hNl : N.length ≤ 100000 := by
        rw [hN, shareL]
        split
        · simp
        · simp; omega
      have C1 : Hid (∀ w : World, Ints w w.heap.size a1 l → Calls Try.prog 20 #[.int .i64 a0, .slice a1 l.length cap1] w (Gives N w)) := fun w h => shareAll_calls a0 a1 cap1 l w h t1 t2 (by omega) hs N hN
      have C2 : Hid (∀ w : World, Ints w w.heap.size a1 l → Calls Try.prog 21 #[.int .i64 a0, .slice a1 l.length cap1] w (Gives N w)) := fun w h => refShare_calls a0 a1 cap1 l w h t1 t2 (by omega) hs N hN
      clear t1 t2 hlb hb hs hN
      go_enter Try.func8, Try.ntmps8
      go_wp2_with fail
      refine (C0.out _ hI).mono ?_
      rintro e w' ⟨rfl, rfl⟩
      go_wp2_with fail
      refine (C1.out _ hI).mono ?_
      rintro e w2 ⟨A2, c2, rfl, hI2, hb2⟩
      have hIb := hI.on hb2
      go_wp2_with fail
      refine (C2.out _ hIb).mono ?_
      rintro e w3 ⟨A3, c3, rfl, hI3, hb3⟩
      have hI2b := hI2.on hb3
      go_wp2_with fail
      refine (same_below A2 A3 c2 c3 N N _ hI2b hI3 hNl true (by unfold Hid; simp)).mono ?_
      rintro e w4 ⟨rfl, hb4⟩
      go_wp2_with fail
      go_ret
      exact ⟨rfl, Below.then_ (Below.then_ hb2 hb3) hb4⟩

set_option maxRecDepth 100000 in
theorem lifted (os : Os) (started : os.Started) (H : Type) (enc : TypeId × Value → H) :
    ReturnsInHanded {} Try.checked os 8 .any (Rows.numsSharesSpec.pre6 enc Try.prog Try.f8 Rows.numsSharesRow.domain false) (Rows.numsSharesSpec.post enc Try.prog Try.f8 false true false false) := by
  refine returnsInHanded_of_change (C := Try.checked) own started (by kernel_rfl) Try.func8
    (ChangeSpec.witness6 (enc := enc) (C := Try.checked) false ⟨#[], #[.int .i64 0, .slice none 0 0], []⟩ 8 (by kernel_rfl) (by kernel_rfl) (by kernel_rfl) (by kernel_rfl)) ?_
  intro W base args ds gs before hval0 hW hcnd _
  have hval : ∀ (j : Nat) t v, Try.f8.params[j]? = some t → args[j]? = some v → Value.okWide Try.prog W .any base t v := hval0
  have hW' := hW
  obtain ⟨p, q, hA0, hV, rfl, hfz, hnd⟩ := hW
  have hA : DataW.TrodAll enc Try.prog W 0 (fun _ => true) true Try.f8.params.toList args.toList ds p := hA0
  rw [Try.params8] at hA hval
  obtain ⟨v0, vs0, d0, ds0, p0, q0, hargs, rfl, rfl, h0, r0⟩ := trodAll_cons hA
  obtain ⟨v1, vs1, d1, ds1, p1, q1, rfl, rfl, rfl, h1, r1⟩ := trodAll_cons r0
  obtain ⟨rfl, rfl, rfl⟩ := trodAll_nil r1
  obtain rfl : args = #[v0, v1] := by cases args; simp_all
  obtain ⟨rfl, rfl⟩ := trodVars_none hV
  obtain ⟨a0, rfl, rfl, rfl, w0⟩ := open_int Try.underlying3 (hval 0 3 v0 rfl rfl) h0
  obtain ⟨a1, len1, cap1, rfl⟩ := okWide_slice Try.underlying28 (hval 1 28 v1 rfl rfl)
  have k1 := h1
  have lt1 : ∀ x ∈ p1, x.block < W.heap.size := by obtain ⟨m, hm⟩ := k1; exact DataW.trod_lt m _ _ _ hm
  obtain ⟨z1, w1⟩ : ∃ zs, IsRow .i64 W a1 len1 cap1 zs := by
    obtain ⟨fuel, hf⟩ := h1
    rcases open_ints Try.underlying28 Try.underlying3 (by kernel_rfl) hf with ⟨hcs, _⟩ | ⟨x, l, c, zs, hcs, _, hl, hm, hz, _, hcell, hwz⟩
    · simp [Value.cells] at hcs
      obtain ⟨rfl, rfl, rfl⟩ := hcs
      exact ⟨[], .inl ⟨rfl, rfl, rfl, rfl⟩⟩
    · simp [Value.cells] at hcs
      obtain ⟨rfl, rfl, rfl⟩ := hcs
      exact ⟨zs, .inr ⟨_, rfl, hl, hm, by simpa using hz, hcell, hwz⟩⟩
  clear hA0 hval0
  refine (walk a0 a1 len1 cap1 z1 W w0 w1).mono fun e W' ⟨he, bel⟩ => ?_
  subst he
  exact ⟨_, rfl, _, _, _, [], _, [], hW', trodAll_mk1 (shut_bool Try.underlying4 _), (trodAll_cons_mk (shut_int Try.underlying3 w0) (trodAll_cons_mk (Below.trod laidOut (by kernel_rfl) (of_decide_eq_true (by kernel_rfl)) k1 bel lt1) trodAll_mk0)), rfl, bel.frame _, fun h => by cases h⟩

theorem over : Rows.numsSharesRow.holds Try.pinned (OpenSpec.ofChange Rows.numsSharesSpec) :=
  OpenClaim.holds_of_wide 8 Try.f8 rfl rfl rfl rfl rfl rfl rfl ⟨rfl, rfl, rfl, rfl, rfl⟩ rfl rfl rfl rfl rfl (by kernel_rfl) Try.func8 (by kernel_rfl)
    (of_decide_eq_true (by kernel_rfl)) (by unfold Func.isWrapper; first | (rw [if_pos (by decide +kernel)]; kernel_rfl) | (rw [if_neg (by decide +kernel)]; exact ⟨rfl, rfl⟩))
    (fun os started H enc _ => lifted os started H enc)

theorem proved : Rows.NumsSharesSaid := over
#print axioms proved
end Go.Proofs.Ytdcmofdmjpggjaa.numsShares
