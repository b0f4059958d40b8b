/- Contract: nodes, the copy of a list of nodes that came in. -/
import Derived.Test.YtdbendnfgkonbaaDoorNodes
import Derived.Test.YtdbendnfgkonbaaDoorLists
namespace Go.Proofs.YtdbendnfgkonbaaDoor
open Go.RowKit
set_option linter.unusedVariables false
set_option linter.unusedSimpArgs false

theorem nodeCells_one (l : List NodeD) : ∀ u ∈ nodeCells l, u.oneCell' = true := by
  intro u hu
  obtain ⟨x, _, hx⟩ := List.mem_flatMap.1 hu
  simp only [cellsN, List.mem_cons, List.not_mem_nil, or_false] at hx
  rcases hx with rfl | rfl | rfl | rfl <;> rfl
theorem nodes_take {w : World} {a : Option Addr} {l : List NodeD} (h : NodesAt w a l) (n : Nat) : NodesAt w a (l.take n) := by
  intro i v hv
  refine h i v ?_
  have e : nodeCells l = nodeCells (l.take n) ++ nodeCells (l.drop n) := by rw [← nodeCells_app, List.take_append_drop]
  rw [e, List.getElem?_append_left (List.getElem?_eq_some_iff.1 hv).1]
  exact hv
theorem nodes_none {w : World} {l : List NodeD} (h : NodesAt w none l) : l = [] := by
  cases l with
  | nil => rfl
  | cons x r => obtain ⟨b, off, hb, _⟩ := h 0 (.int .i64 x.test) rfl; cases hb

set_option maxRecDepth 20000 in
theorem nodes_any (a : Option Addr) (n k : Nat) (l : List NodeD) (w : World) (hn : n = l.length) (hx : NodesAt w a l) (hk : l.length ≤ k) (hnil : a = none → k = 0) :
    Calls Tryd.prog 24 #[.slice a n k] w fun e w' => ∃ a' k', e = .returned (.slice a' (l.take 1001).length k') ∧ w'.ownsRow w.heap.size 45 4 (.slice a' (l.take 1001).length k') (l.take 1001).length (nodeCells (l.take 1001)) ∧ Ext w w' := by
  have hc := Lib.hid (nodes_take hx 1001)
  have hl : (l.take 1001).length = min n 1001 := by rw [List.length_take]; omega
  have HL := Lib.hid hl
  obtain ⟨i1, hi1, hz10, hz11, hz12⟩ := info_parts info_node
  rw [hl]
  cases a with
  | none =>
    obtain rfl := hnil rfl
    obtain rfl : n = 0 := by omega
    have hxs := nodes_none hx
    subst hxs
    have hc0 : CellsAt w none [] := fun i v hv => by simp at hv
    clear hl hx hk hn
    go_enter Tryd.func24, Tryd.ntmps24
    go_wp2_with (at_builtin; refine wpList_append_came rfl _ _ 27 rfl w.heap.size 45 i1 _ 4 32 Tryd.underlying27 hi1 hz10 hz11 hz12 rfl (by decide) (.slice none 0 0) 0 [] rfl (World.ownsRow_nil _ _ _ _) none 0 0 [] rfl rfl (fun _ => rfl) hc0 (by simp) (by decide) (by decide) (Nat.le_refl _) ?_)
    intro v w4 hown hgrow
    obtain ⟨a', k', rfl, _, _⟩ := cells_of_own hown
    have HOWN := Lib.hid hown
    clear hown
    go_wp2_with fail
    go_ret
    exact ⟨a', k', rfl, by simpa [nodeCells] using HOWN.out, (Ext.refl w).grown hgrow (Nat.le_refl _) (fun k hk => by simp [Value.ownBlock] at hk)⟩
  | some A =>
    obtain ⟨m, hm⟩ : ∃ m, min n 1001 = m := ⟨_, rfl⟩
    rw [hm] at hl ⊢
    have hnk : n ≤ k := by omega
    have hm14 : m ≤ 1001 := by omega
    have hil : (nodeCells (l.take 1001)).length = m * 4 := by rw [nodeCells_len]; omega
    have HIL := Lib.hid hil
    by_cases h14 : (n : Int) ≤ 1001
    · obtain rfl : m = n := by omega
      clear hl hx hk hn hnil hil hm
      go_enter Tryd.func24, Tryd.ntmps24
      go_wp2_with (at_builtin; refine wpList_append_came rfl _ _ 27 rfl w.heap.size 45 i1 _ 4 32 Tryd.underlying27 hi1 hz10 hz11 hz12 rfl (by decide) (.slice none 0 0) 0 [] rfl (World.ownsRow_nil _ _ _ _) (some A) m k (nodeCells (l.take 1001)) rfl HIL.out (fun h => by cases h) hc.out (nodeCells_one _) (by unfold maxLen; omega) (by omega) (Nat.le_refl _) ?_)
      intro v w4 hown hgrow
      obtain ⟨a', k', rfl, _, _⟩ := cells_of_own hown
      have HOWN := Lib.hid hown
      clear hown
      go_wp2_with fail
      go_ret
      exact ⟨a', k', rfl, by simpa using HOWN.out, (Ext.refl w).grown hgrow (Nat.le_refl _) (fun k hk => by simp [Value.ownBlock] at hk)⟩
    · obtain rfl : m = 1001 := by omega
      clear hl hx hk hn hnil hil hm
      go_enter Tryd.func24, Tryd.ntmps24
      go_wp2_with (at_builtin; refine wpList_append_came rfl _ _ 27 rfl w.heap.size 45 i1 _ 4 32 Tryd.underlying27 hi1 hz10 hz11 hz12 rfl (by decide) (.slice none 0 0) 0 [] rfl (World.ownsRow_nil _ _ _ _) (some A) 1001 k (nodeCells (l.take 1001)) rfl HIL.out (fun h => by cases h) hc.out (nodeCells_one _) (by unfold maxLen; omega) (by omega) (Nat.le_refl _) ?_)
      intro v w4 hown hgrow
      obtain ⟨a', k', rfl, _, _⟩ := cells_of_own hown
      have HOWN := Lib.hid hown
      clear hown
      go_wp2_with fail
      go_ret
      exact ⟨a', k', rfl, by simpa using HOWN.out, (Ext.refl w).grown hgrow (Nat.le_refl _) (fun k hk => by simp [Value.ownBlock] at hk)⟩
end Go.Proofs.YtdbendnfgkonbaaDoor
