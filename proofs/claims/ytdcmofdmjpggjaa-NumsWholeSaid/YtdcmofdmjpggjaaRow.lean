/-
  A row of ints of the call's own that is written in place ('Row'); append of a whole slice to nil. Plain lemmas; no condition.
-/
import Derived.Test.YtdcmofdmjpggjaaBase2
import Derived.Deep.AppendLies
import Derived.RegionTactic
namespace Go.Proofs.Ytdcmofdmjpggjaa
open Go.RowKit

/-- a row of the call's own, not nil, whose first n cells are the ints C -/
def Row (w : World) (B g n cap : Nat) (C : List Int) : Prop := w.ownsRow B 3 1 (.slice (some ⟨g, 0, none⟩) n cap) n (ivs C)
section
variable {w w' : World} {B g n cap : Nat} {C : List Int}
theorem Row.len (h : Row w B g n cap C) : C.length = n := by have := h.1; simpa using this
theorem Row.at_ (h : Row w B g n cap C) {k : Nat} (hk : k < n) : ∃ x, C[k]? = some x ∧ w.cell? ⟨g, k, none⟩ = some (.int .i64 x) ∧ w.frozen? ⟨g, k, none⟩ = false := by
  have hk' : k < C.length := by rw [h.len]; exact hk
  refine ⟨C[k], List.getElem?_eq_getElem hk', ?_, World.ownsRow.frozenAt h k⟩
  rw [World.ownsRow.cellAt h k (by omega), ivs_get, List.getElem?_eq_getElem hk']
  rfl
theorem Row.set_ (h : Row w B g n cap C) (k : Nat) (x : Int) : Row (w.setCell ⟨g, k, none⟩ (.int .i64 x)) B g n cap (C.set k x) := by
  have := (World.ownsRow.stored h k (.int .i64 x)).1
  rwa [ivs_set] at this
theorem Row.ge (h : Row w B g n cap C) : B ≤ g := (World.ownsRow.lt h g rfl).1
theorem Row.lt (h : Row w B g n cap C) : g < w.heap.size := (World.ownsRow.lt h g rfl).2
theorem Row.intsN (h : Row w B g n cap C) : IntsN w B (some ⟨g, 0, none⟩) C := by
  have h' := h
  unfold Row at h'
  rw [← h.len] at h'
  obtain ⟨A, c, hv, hI⟩ := own_intsN h'
  injection hv with hA _ _
  rw [hA]
  exact hI
theorem Row.on (h : Row w B g n cap C) (hb : Below w.heap.size w w') : Row w' B g n cap C := own_on h hb
end
theorem own_form {w : World} {B : Nat} {e : TypeId} {size n : Nat} {v : Value} {xs : List Value} (h : w.ownsRow B e size v n xs) : ∃ A c, v = .slice A n c := by
  rcases h.2 with ⟨rfl, rfl⟩ | ⟨g, cap, cur, rfl, _⟩
  · exact ⟨_, _, rfl⟩
  · exact ⟨_, _, rfl⟩
theorem own_row {w : World} {B : Nat} {v : Value} {n : Nat} {C : List Int} (h : w.ownsRow B 3 1 v n (ivs C)) (hn : 0 < n) : ∃ g cap, v = .slice (some ⟨g, 0, none⟩) n cap ∧ Row w B g n cap C := by
  obtain ⟨g, cap, rfl, _, _⟩ := h.form hn
  exact ⟨g, cap, rfl, h⟩
theorem own_of_blk {w : World} {B g n : Nat} {C : List Int} (h : Blk w g 3 (ivs C)) (hB : B ≤ g) (hn : n = C.length) (hm : n ≤ maxLen) : Row w B g n n C := h.own hB hn hm
/-- 'append([]int(nil), xs...)' where xs is empty -/
theorem wpList_append_empty {P : Program} (w : World) {ops : Array Oper} {rest : List Oper} {o : Oper} {a : Act} {Q : Exit → Act → World → Prop} (hgd : o.guard = none) (s x : Operand) (t : TypeId)
    (ho : o.op = .call { callee := .builtin .append, args := #[s, x], argTypes := #[t, t] }) (e : TypeId) (i : TypeInfo) (ht : P.underlying t = some (.slice e)) (hi : P.info? e = some i)
    (hs : a.eval s = .slice none 0 0) (A : Option Addr) (c : Nat) (hx : a.eval x = .slice A 0 c) (h : wpList P ops Q rest (a.put o.dst (.slice none 0 0)) w) : wpList P ops Q (o :: rest) a w := by
  refine wpList_plain hgd fun K hK => ?_
  have hr : (Builtin.append_ #[t, t] o.type #[.slice none 0 0, .slice A 0 c]).run P w = .ok (.slice none 0 0) w := by
    cases A with
    | none => simp [Builtin.append_, run_underlying ht, sizeOf, typeInfo, hi, Builtin.lenOf, Builtin.firstCells]
    | some ad => simp [Builtin.append_, run_underlying ht, sizeOf, typeInfo, hi, Builtin.lenOf, Builtin.firstCells, loadCells, loadCellsFrom]
  unfold Oper.wp execOp
  simp only [ho, resolve, invoke, builtin, Sem.run_bind, Sem.run_pure, Result.andThen_ok, List.map_toArray, List.map_cons, List.map_nil, hs, hx, hr]
  exact hK _ _ h
end Go.Proofs.Ytdcmofdmjpggjaa
