/- A list of nodes that came in reads as nodes. -/
import Derived.Test.YtdbendnfgkonbaaDoorFrame
import Derived.Test.YtdbendnfgkonbaaDoorNodes
namespace Go.Proofs.YtdbendnfgkonbaaDoor
open Go.ChangeShapes Go.WideShapes Go.ChangeAt Go.RowKit
set_option linter.unusedVariables false

section
variable {H : Type} {enc : TypeId × Value → H} {W : World}

set_option maxRecDepth 100000 in
theorem node_of {n : Nat} {cs : List Value} {y : DataW H × List MemPlace} (h : DataW.trod enc Tryd.prog W 0 (fun _ => true) true n 45 cs = some y) (hl : cs.length = 4) : ∃ x : NodeD, cs = cellsN x := by
  obtain ⟨y0, y1, y2, y3, m, _, _, h0, h1, h2, h3⟩ := Joins.trod_struct4 Tryd.underlying45 h
  match cs, hl with
  | [v0, v1, v2, v3], _ =>
    have hc : Tryd.prog.cellsOf 3 = 1 := by kernel_rfl
    obtain ⟨a, e0, _, _⟩ := DataW.trod_int Tryd.underlying3 (show DataW.trod enc Tryd.prog W 0 (fun _ => true) true m 3 [v0] = some y0 by simpa [hc] using h0)
    obtain ⟨b, e1, _, _⟩ := DataW.trod_int Tryd.underlying3 (show DataW.trod enc Tryd.prog W 0 (fun _ => true) true m 3 [v1] = some y1 by simpa [hc] using h1)
    obtain ⟨c, e2, _, _⟩ := DataW.trod_int Tryd.underlying3 (show DataW.trod enc Tryd.prog W 0 (fun _ => true) true m 3 [v2] = some y2 by simpa [hc] using h2)
    obtain ⟨d, e3, _, _⟩ := DataW.trod_int Tryd.underlying3 (show DataW.trod enc Tryd.prog W 0 (fun _ => true) true m 3 [v3] = some y3 by simpa [hc] using h3)
    simp at e0 e1 e2 e3
    subst e0 e1 e2 e3
    exact ⟨⟨a, b, c, d⟩, rfl⟩

theorem nodes_of {c : Value} {n : Nat} {y : DataW H × List MemPlace} (h : DataW.trod enc Tryd.prog W 0 (fun _ => true) true n 27 [c] = some y) :
    ∃ a k l, c = .slice a l.length k ∧ l.length ≤ k ∧ (a = none → k = 0) ∧ NodesAt W a l := by
  have hc4 : Tryd.prog.cellsOf 45 = 4 := by kernel_rfl
  rcases Deep.open_slice Tryd.underlying27 h with ⟨hc, _⟩ | ⟨A, len, cap, m, n', D, Pl, hc, _, hl, hm, hmm, _, hx⟩
  · cases hc
    exact ⟨none, 0, [], rfl, Nat.le_refl _, fun _ => rfl, fun i v hv => by simp [nodeCells] at hv⟩
  · cases hc
    have hmc : m = cap := by simpa using hmm
    rw [hc4] at hx
    obtain ⟨f, hf⟩ := Deep.choose_lt (α := NodeD) (p := fun i x => ∀ j, j < 4 → W.cell? ((A.add (i * 4)).add j) = (cellsN x)[j]?) (fun i (hi : i < m) => by
      obtain ⟨cs', h1, h2⟩ := hx i hi
      obtain ⟨_, h4, h5⟩ := World.cells?_some h1
      obtain ⟨x, rfl⟩ := node_of h2 h4
      exact ⟨x, h5⟩)
    have hlen : ((List.range len).map f).length = len := by simp
    refine ⟨some A, cap, (List.range len).map f, by rw [hlen], by rw [hlen]; exact hl, (fun h => by cases h), fun idx v hv => ?_⟩
    have hil : idx < len * 4 := by
      have := (List.getElem?_eq_some_iff.1 hv).1
      rw [nodeCells_len, hlen] at this
      exact this
    obtain ⟨i, j, hij, hj, hi⟩ : ∃ i j, idx = i * 4 + j ∧ j < 4 ∧ i < len := ⟨idx / 4, idx % 4, by omega, by omega, by omega⟩
    subst hij
    have hxi : ((List.range len).map f)[i]? = some (f i) := by rw [List.getElem?_map, List.getElem?_range hi]; rfl
    rw [nodeCells_get _ _ i j hxi hj] at hv
    have hcell := hf i (by omega) j hj
    rw [hv] at hcell
    have h0 := hf 0 (by omega) 0 (by decide)
    obtain ⟨b, off, spot⟩ := A
    have hspot : spot = none := by
      have : (cellsN (f 0))[0]? = some (.int .i64 (f 0).test) := rfl
      rw [this] at h0
      simpa [Addr.add] using World.cell?_spot h0
    subst hspot
    refine ⟨b, off, rfl, ?_⟩
    rw [add_plain, add_plain] at hcell
    rw [← Nat.add_assoc]
    exact hcell
end
end Go.Proofs.YtdbendnfgkonbaaDoor
