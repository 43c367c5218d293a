/-
  What came in, opened: a struct of two ints, an array of three ints, a slice of structs or of arrays of two ints. Plain lemmas; no condition.
-/
import Derived.Test.YtehjeiojbdpmkaaAlive
import Derived.Lib.SmallJoins
import Derived.Deep.Slices
import Derived.Deep.Fields
import Derived.ChangeSame
namespace Go.Proofs.Ytehjeiojbdpmkaa
open Go.RowKit Go.Joins Go.ChangeShapes Go.WideShapes Go.Deep

theorem block_lt {w : World} {x : Addr} {v : Value} (h : w.cell? x = some v) : x.block < w.heap.size := World.block_lt_of_cell? w x h
/-- a slice of pairs of ints that came in -/
def IsRow2 (w : World) (a : Option Addr) (len : Nat) (zs : List (Int × Int)) : Prop :=
  (a = none ∧ len = 0 ∧ zs = []) ∨
  ∃ x, a = some x ∧ len = zs.length ∧ len ≤ maxLen ∧ ∀ i z, zs[i]? = some z → w.cell? (x.add (i * 2)) = some (.int .i64 z.1) ∧ w.cell? (x.add (i * 2 + 1)) = some (.int .i64 z.2) ∧ (Lit.int .i64 z.1).wf = true ∧ (Lit.int .i64 z.2).wf = true
/-- what came in, as a list -/
theorem view2 {w : World} {a : Option Addr} {len : Nat} {zs : List (Int × Int)} (h : IsRow2 w a len zs) :
    len = zs.length ∧ len ≤ maxLen ∧ Tabs w w.heap.size a zs ∧ ∀ z ∈ zs, (-9223372036854775808 ≤ z.1 ∧ z.1 ≤ 9223372036854775807) ∧ (-9223372036854775808 ≤ z.2 ∧ z.2 ≤ 9223372036854775807) := by
  rcases h with ⟨rfl, rfl, rfl⟩ | ⟨x, rfl, hl, hm, hcell⟩
  · exact ⟨rfl, Nat.zero_le _, .inl rfl, by simp⟩
  · refine ⟨hl, hm, ?_, fun z hz => ?_⟩
    · cases zs with
      | nil => exact .inl rfl
      | cons z0 zr =>
        obtain ⟨b, off, spot⟩ := x
        have hc := (hcell 0 z0 rfl).1
        have hspot : spot = none := by simpa [Addr.add] using World.cell?_spot hc
        subst hspot
        refine .inr ⟨b, off, rfl, by simpa [Addr.add] using block_lt hc, fun k y hy => ?_⟩
        obtain ⟨h1, h2, _, _⟩ := hcell k y hy
        simp only [Addr.add_lit] at h1 h2
        exact ⟨h1, by rw [Nat.add_assoc]; exact h2⟩
    · obtain ⟨i, hi⟩ := List.getElem?_of_mem hz
      obtain ⟨_, _, h1, h2⟩ := hcell i z hi
      exact ⟨bounds_i64 h1, bounds_i64 h2⟩

section
variable {H : Type} {enc : TypeId × Value → H} {P : Program} {w : World} {base : Nat} {spare : Nat → Bool} {held : Bool}
/-- a struct of two ints -/
theorem two_tab {e : TypeId} {f0 f1 : Field} {n : Nat} {cs : List Value} {x : DataW H × List MemPlace} (he : P.underlying e = some (.struct #[f0, f1])) (h0 : P.underlying f0.type = some (.int .i64)) (h1 : P.underlying f1.type = some (.int .i64))
    (hone : oneCellFields P #[f0, f1] = true) (hl : cs.length = 2) (h : DataW.trod enc P w base spare held n e cs = some x) : ∃ a b : Int, cs = [.int .i64 a, .int .i64 b] ∧ (Lit.int .i64 a).wf = true ∧ (Lit.int .i64 b).wf = true := by
  match cs, hl with
  | [c0, c1], _ =>
    obtain ⟨y0, y1, m, _, _, t0, t1⟩ := trod_struct2 he h
    obtain ⟨o0, k0⟩ := hone_of hone 0 f0 rfl
    obtain ⟨o1, k1⟩ := hone_of hone 1 f1 rfl
    obtain ⟨a, e0, _, wa⟩ := DataW.trod_int h0 (by simpa [o0, k0] using t0)
    obtain ⟨b, e1, _, wb⟩ := DataW.trod_int h1 (by simpa [o1, k1] using t1)
    simp at e0 e1
    subst e0 e1
    exact ⟨a, b, rfl, wa, wb⟩
/-- an array of two ints -/
theorem two_arr {e i : TypeId} {n : Nat} {cs : List Value} {x : DataW H × List MemPlace} (he : P.underlying e = some (.array 2 i)) (hi : P.underlying i = some (.int .i64)) (hc : P.cellsOf i = 1)
    (hl : cs.length = 2) (h : DataW.trod enc P w base spare held n e cs = some x) : ∃ a b : Int, cs = [.int .i64 a, .int .i64 b] ∧ (Lit.int .i64 a).wf = true ∧ (Lit.int .i64 b).wf = true := by
  match cs, hl with
  | [c0, c1], _ =>
    obtain ⟨xs, m, _, _, _, hxl, hel⟩ := DataW.trod_array he h
    match xs, hxl with
    | [y0, y1], _ =>
      have h0 := hel 0 (by omega)
      have h1 := hel 1 (by omega)
      rw [hc] at h0 h1
      simp at h0 h1
      obtain ⟨a, e0, _, wa⟩ := DataW.trod_int hi h0
      obtain ⟨b, e1, _, wb⟩ := DataW.trod_int hi h1
      simp at e0 e1
      subst e0 e1
      exact ⟨a, b, rfl, wa, wb⟩
/-- a slice of elements of two cells -/
theorem open_rows2 {t e : TypeId} {A : Option Addr} {len cap : Nat} {d : DataW H} {p : List MemPlace} (ht : P.underlying t = some (.slice e)) (hC : P.cellsOf e = 2)
    (hel : ∀ n cs x, cs.length = 2 → DataW.trod enc P w base spare held n e cs = some x → ∃ a b : Int, cs = [.int .i64 a, .int .i64 b] ∧ (Lit.int .i64 a).wf = true ∧ (Lit.int .i64 b).wf = true)
    (h : DataW.Trod enc P w base spare held t (.slice A len cap) d p) : ∃ zs, IsRow2 w A len zs := by
  obtain ⟨fuel, hf⟩ := h
  rcases open_slice ht hf with ⟨hcs, _⟩ | ⟨a, l, c, m, n, D, Pl, hcs, hb, hl, hm, hmm, hx, hi⟩
  · simp [Value.cells] at hcs
    obtain ⟨rfl, rfl, rfl⟩ := hcs
    exact ⟨[], .inl ⟨rfl, rfl, rfl⟩⟩
  · simp [Value.cells] at hcs
    obtain ⟨rfl, rfl, rfl⟩ := hcs
    have hlm : len ≤ m := by rw [hmm]; split <;> omega
    have key : ∀ i, i < len → ∃ z : Int × Int, w.cell? (a.add (i * 2)) = some (.int .i64 z.1) ∧ w.cell? (a.add (i * 2 + 1)) = some (.int .i64 z.2) ∧ (Lit.int .i64 z.1).wf = true ∧ (Lit.int .i64 z.2).wf = true := by
      intro i him
      obtain ⟨cs', hc, ht'⟩ := hi i (by omega)
      rw [hC] at hc
      obtain ⟨_, hcl, hat⟩ := World.cells?_some hc
      obtain ⟨x, y, rfl, wx, wy⟩ := hel _ _ _ hcl ht'
      have c0 := hat 0 (by omega)
      have c1 := hat 1 (by omega)
      rw [Go.Deep.add_add] at c0 c1
      exact ⟨(x, y), by simpa using c0, by simpa using c1, wx, wy⟩
    clear hi hx hf
    obtain ⟨zs, hzl, hz⟩ : ∃ zs : List (Int × Int), zs.length = len ∧ ∀ i z, zs[i]? = some z → w.cell? (a.add (i * 2)) = some (.int .i64 z.1) ∧ w.cell? (a.add (i * 2 + 1)) = some (.int .i64 z.2) ∧ (Lit.int .i64 z.1).wf = true ∧ (Lit.int .i64 z.2).wf = true := by
      clear hlm hmm hl
      induction len with
      | zero => exact ⟨[], rfl, by simp⟩
      | succ k ih =>
        obtain ⟨zs, hzl, hz⟩ := ih (fun i hi => key i (by omega))
        obtain ⟨z, hzk⟩ := key k (by omega)
        refine ⟨zs ++ [z], by simp [hzl], fun i y hy => ?_⟩
        rcases Nat.lt_trichotomy i zs.length with h | h | h
        · rw [List.getElem?_append_left h] at hy
          exact hz i y hy
        · subst h
          rw [List.getElem?_concat_length] at hy
          injection hy with hy
          subst hy
          rw [hzl]
          exact hzk
        · rw [List.getElem?_eq_none (by simp; omega)] at hy
          cases hy
    exact ⟨zs, .inr ⟨a, rfl, hzl.symm, by omega, hz⟩⟩
/-- a struct of two ints that came in by value -/
theorem open_tab_ {r : Reach} {b0 : Nat} {t : TypeId} {f0 f1 : Field} {v : Value} {d : DataW H} {p : List MemPlace} (ht : P.underlying t = some (.struct #[f0, f1])) (h0 : P.underlying f0.type = some (.int .i64)) (h1 : P.underlying f1.type = some (.int .i64)) (hone : oneCellFields P #[f0, f1] = true) (hC : P.cellsOf t = 2)
    (hv : Value.okWide P w r b0 t v) (h : DataW.Trod enc P w base spare held t v d p) : ∃ x y : Int, v = .agg #[.int .i64 x, .int .i64 y] ∧ (Lit.int .i64 x).wf = true ∧ (Lit.int .i64 y).wf = true := by
  obtain ⟨v0, v1, y0, y1, n, rfl, _, _, t0, t1⟩ := open_agg2 ht hone hC hv h
  obtain ⟨a, e0, _, wa⟩ := DataW.trod_int h0 t0
  obtain ⟨b, e1, _, wb⟩ := DataW.trod_int h1 t1
  simp at e0 e1
  subst e0 e1
  exact ⟨a, b, rfl, wa, wb⟩
/-- an array of three ints that came in by value -/
theorem open_arr3 {r : Reach} {b0 : Nat} {t e : TypeId} {v : Value} {d : DataW H} {p : List MemPlace} (ht : P.underlying t = some (.array 3 e)) (he : P.underlying e = some (.int .i64)) (hce : P.cellsOf e = 1) (hct : P.cellsOf t = 3)
    (hv : Value.okWide P w r b0 t v) (h : DataW.Trod enc P w base spare held t v d p) : ∃ x y z : Int, v = .agg #[.int .i64 x, .int .i64 y, .int .i64 z] ∧ (Lit.int .i64 x).wf = true ∧ (Lit.int .i64 y).wf = true ∧ (Lit.int .i64 z).wf = true := by
  have hv' : ∃ cs, v = .agg cs ∧ cs.size = P.cellsOf t := by
    simp only [Value.okWide, ht] at hv
    obtain ⟨cs, h1, h2, _⟩ := hv
    exact ⟨cs, h1, h2⟩
  obtain ⟨cs, rfl, hs⟩ := hv'
  rw [hct] at hs
  obtain ⟨l⟩ := cs
  match l, hs with
  | [c0, c1, c2], _ =>
    obtain ⟨fuel, hf⟩ := h
    obtain ⟨xs, m, _, _, _, hl, hel⟩ := DataW.trod_array ht hf
    match xs, hl with
    | [y0, y1, y2], _ =>
      have h0 := hel 0 (by omega)
      have h1 := hel 1 (by omega)
      have h2 := hel 2 (by omega)
      rw [hce] at h0 h1 h2
      simp [Value.cells] at h0 h1 h2
      obtain ⟨x, e0, _, wx⟩ := DataW.trod_int he h0
      obtain ⟨y, e1, _, wy⟩ := DataW.trod_int he h1
      obtain ⟨z, e2, _, wz⟩ := DataW.trod_int he h2
      simp at e0 e1 e2
      subst e0 e1 e2
      exact ⟨x, y, z, rfl, wx, wy, wz⟩
end
end Go.Proofs.Ytehjeiojbdpmkaa
