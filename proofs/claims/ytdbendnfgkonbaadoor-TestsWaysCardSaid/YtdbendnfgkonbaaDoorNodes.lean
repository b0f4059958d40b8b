/- Lists of nodes that came in: how they read; nodes are compared. -/
import Derived.Test.YtdbendnfgkonbaaDoorPlanA
import Derived.Test.YtdbendnfgkonbaaDoorLists
import Derived.Laws.StructEq
namespace Go.Proofs.YtdbendnfgkonbaaDoor
open Go.RowKit
set_option linter.unusedVariables false
set_option linter.unusedSimpArgs false

def NodesAt (w : World) (a : Option Addr) (l : List NodeD) : Prop := CellsAt w a (nodeCells l)
theorem NodesAt.ext {w w' : World} {a : Option Addr} {l : List NodeD} (h : NodesAt w a l) (hb : Ext w w') : NodesAt w' a l := CellsAt.ext h hb
theorem nodeCells_get (x : NodeD) : ∀ (l : List NodeD) (i j : Nat), l[i]? = some x → j < 4 → (nodeCells l)[i * 4 + j]? = (cellsN x)[j]?
  | [], i, j, h, _ => by simp at h
  | y :: r, 0, j, h, hj => by
    cases h
    show (cellsN x ++ nodeCells r)[0 * 4 + j]? = _
    rw [Nat.zero_mul, Nat.zero_add, List.getElem?_append_left (by simp [cellsN]; omega)]
  | y :: r, i + 1, j, h, hj => by
    show (cellsN y ++ nodeCells r)[(i + 1) * 4 + j]? = _
    rw [List.getElem?_append_right (by simp [cellsN]; omega)]
    have e : (i + 1) * 4 + j - (cellsN y).length = i * 4 + j := by simp [cellsN]; omega
    rw [e]
    exact nodeCells_get x r i j (by simpa using h) hj
theorem NodesAt.get {w : World} {a : Option Addr} {l : List NodeD} (h : NodesAt w a l) {i : Nat} (hi : i < l.length) :
    ∃ b off x, a = some ⟨b, off, none⟩ ∧ w.cell? ⟨b, off + i * 4, none⟩ = some (.int .i64 x.test) ∧ w.cell? ⟨b, off + i * 4 + 1, none⟩ = some (.int .i64 x.fault) ∧ w.cell? ⟨b, off + i * 4 + 2, none⟩ = some (.int .i64 x.zero) ∧ w.cell? ⟨b, off + i * 4 + 3, none⟩ = some (.int .i64 x.one) ∧ Hid (l[i]? = some x) := by
  have hx : l[i]? = some l[i] := List.getElem?_eq_getElem hi
  have c : ∀ j v, j < 4 → (cellsN l[i])[j]? = some v → ∃ b off, a = some ⟨b, off, none⟩ ∧ w.cell? ⟨b, off + (i * 4 + j), none⟩ = some v := fun j v hj hv => h _ _ ((nodeCells_get _ l i j hx hj).trans hv)
  obtain ⟨b, off, rfl, c0⟩ := c 0 _ (by decide) rfl
  obtain ⟨b1, o1, e1, c1⟩ := c 1 _ (by decide) rfl
  obtain ⟨b2, o2, e2, c2⟩ := c 2 _ (by decide) rfl
  obtain ⟨b3, o3, e3, c3⟩ := c 3 _ (by decide) rfl
  cases e1; cases e2; cases e3
  exact ⟨b, off, l[i], rfl, c0, c1, c2, c3, Lib.hid hx⟩

theorem eqNode (w : World) (a b c d a' b' c' d' : Int) : (Op.equalIn 10000 45 (.agg #[.int .i64 a, .int .i64 b, .int .i64 c, .int .i64 d]) (.agg #[.int .i64 a', .int .i64 b', .int .i64 c', .int .i64 d'])).run Tryd.prog w = .ok (a == a' && (b == b' && (c == c' && d == d'))) w := by
  rw [run_equalIn_struct w 9999 45 _ _ (by simp [Program.fieldsOf, Tryd.underlying45]) (by kernel_rfl)]
  simp [Program.fieldsOf, Tryd.underlying45, Op.eqFields]
  go_simp
  by_cases h1 : a = a' <;> by_cases h2 : b = b' <;> by_cases h3 : c = c' <;> by_cases h4 : d = d' <;> simp [h1, h2, h3, h4]
end Go.Proofs.YtdbendnfgkonbaaDoor
