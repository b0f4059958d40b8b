/- Contracts at a case whose faults all differ: Best, Worst, Greedy, Cover; Alike at a case. -/
import Derived.Test.YtdbendnfgkonbaaDoorOptimal
import Derived.Test.YtdbendnfgkonbaaDoorOwn
namespace Go.Proofs.YtdbendnfgkonbaaDoor
open Go.RowKit
set_option linter.unusedVariables false
set_option linter.unusedSimpArgs false

theorem Best_ok (cv : Value) (C : CaseD) (w : World) (hC : CaseAt w cv C) (htab : TabAt w) (hok : caseOk C = true) (hal : alikeL (C.ts.map mask) C.ws.length = []) :
    Calls Tryd.prog 21 #[cv] w fun e w' => ∃ v, e = .returned (.tuple #[v, .int .i64 (bestCost C (meanM C)), .int .i64 0]) ∧ w'.ownsRow w.heap.size 45 4 v (bestPlan C (meanM C)).length (nodeCells (bestPlan C (meanM C))) ∧ Ext w w' := by
  refine (Best_any cv C w hC htab).mono ?_
  rintro e w' (⟨_, _, v, he, ho, hx⟩ | ⟨_, h, _⟩ | ⟨h, _⟩)
  · exact ⟨v, he, ho, hx⟩
  · exact absurd hal h
  · rw [hok] at h; cases h
theorem Worst_ok (cv : Value) (C : CaseD) (w : World) (hC : CaseAt w cv C) (htab : TabAt w) (hok : caseOk C = true) (hal : alikeL (C.ts.map mask) C.ws.length = []) :
    Calls Tryd.prog 22 #[cv] w fun e w' => ∃ v, e = .returned (.tuple #[v, .int .i64 (bestCost C (worstM C)), .int .i64 0]) ∧ w'.ownsRow w.heap.size 45 4 v (bestPlan C (worstM C)).length (nodeCells (bestPlan C (worstM C))) ∧ Ext w w' := by
  refine (Worst_any cv C w hC htab).mono ?_
  rintro e w' (⟨_, _, v, he, ho, hx⟩ | ⟨_, h, _⟩ | ⟨h, _⟩)
  · exact ⟨v, he, ho, hx⟩
  · exact absurd hal h
  · rw [hok] at h; cases h
theorem Greedy_ok (cv : Value) (C : CaseD) (w : World) (hC : CaseAt w cv C) (htab : TabAt w) (hok : caseOk C = true) (hal : alikeL (C.ts.map mask) C.ws.length = []) :
    Calls Tryd.prog 11 #[cv] w fun e w' => ∃ v, e = .returned (.tuple #[v, .int .i64 0]) ∧ w'.ownsRow w.heap.size 45 4 v (planAll C (greedySel C)).length (nodeCells (planAll C (greedySel C))) ∧ Ext w w' := by
  refine (Greedy_any cv C w hC htab).mono ?_
  rintro e w' (⟨_, _, v, he, ho, hx⟩ | ⟨_, h, _⟩ | ⟨h, _⟩)
  · exact ⟨v, he, ho, hx⟩
  · exact absurd hal h
  · rw [hok] at h; cases h
theorem Cover_ok (cv : Value) (C : CaseD) (w : World) (hC : CaseAt w cv C) (hok : caseOk C = true) (hal : alikeL (C.ts.map mask) C.ws.length = []) :
    Calls Tryd.prog 13 #[cv] w fun e w' => ∃ v, e = .returned (.tuple #[v, .int .i64 0]) ∧
      w'.ownsRow w.heap.size 3 1 v (coverL (C.ts.map mask) C.ws.length C.ts.length).length (natCells (coverL (C.ts.map mask) C.ws.length C.ts.length)) ∧ Ext w w' := by
  refine (Cover_any cv C w hC).mono ?_
  rintro e w' (⟨_, _, v, he, ho, hx⟩ | ⟨_, h, _⟩ | ⟨h, _⟩)
  · exact ⟨v, he, ho, hx⟩
  · exact absurd hal h
  · rw [hok] at h; cases h
theorem Alike_ok (cv : Value) (C : CaseD) (w : World) (hC : CaseAt w cv C) (hok : caseOk C = true) :
    Calls Tryd.prog 12 #[cv] w fun e w' => ∃ v, e = .returned (.tuple #[v, .int .i64 0]) ∧
      w'.ownsRow w.heap.size 39 2 v (alikeL (C.ts.map mask) C.ws.length).length (pairCells (alikeL (C.ts.map mask) C.ws.length)) ∧ Ext w w' := by
  refine (Alike_any cv C w hC).mono ?_
  rintro e w' (⟨_, v, he, ho, hx⟩ | ⟨h, _⟩)
  · exact ⟨v, he, ho, hx⟩
  · rw [hok] at h; cases h

theorem lit_ints {w : World} {b : Nat} {cs : Array Value} {t : TypeId} {fr : Nat × Nat} {xs : List Int} (h : w.heap[b]? = some (.cells cs t fr)) (hc : cs.toList = xs.map (Value.int .i64)) : IntsAt w (some ⟨b, 0, none⟩) xs := by
  intro i v hv
  refine ⟨b, 0, rfl, ?_⟩
  rw [cell_heap h, Nat.zero_add, ← hv, ← hc]
  simp
theorem ints_nil (w : World) : IntsAt w none [] := fun i v hv => by simp at hv
theorem rows_nil (w : World) : RowsAt w none [] := fun i v hv => by simp at hv
end Go.Proofs.YtdbendnfgkonbaaDoor
