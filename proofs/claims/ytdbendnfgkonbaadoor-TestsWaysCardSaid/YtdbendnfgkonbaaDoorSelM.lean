/- Plain mathematics: where all faults differ, every set of two faults or more is split by some test; the choices of best and greedy split. -/
import Derived.Test.YtdbendnfgkonbaaDoorSel
namespace Go.Proofs.YtdbendnfgkonbaaDoor
open Go.RowKit
set_option linter.unusedVariables false
set_option linter.unusedSimpArgs false

theorem two_bits {s : Nat} (hs : s < 1024) (h0 : s ≠ 0) (hp : pop s ≠ 1) : ∃ a b, a < b ∧ s.testBit a = true ∧ s.testBit b = true := by
  have hpp := pop_pos hs h0
  unfold pop at hpp hp
  rw [List.countP_eq_length_filter] at hpp hp
  have hpw : ((List.range 10).filter fun i => s.testBit i).Pairwise (· < ·) := List.Pairwise.sublist List.filter_sublist List.pairwise_lt_range
  have hmem : ∀ x ∈ (List.range 10).filter fun i => s.testBit i, s.testBit x = true := fun x hx => (List.mem_filter.1 hx).2
  generalize (List.range 10).filter (fun i => s.testBit i) = l at *
  match l, hpp, hp, hpw, hmem with
  | [], h, _, _, _ => simp at h
  | [_], _, h, _, _ => simp at h
  | a :: b :: r, _, _, h, hm => exact ⟨a, b, (List.pairwise_cons.1 h).1 b (by simp), hm a (by simp), hm b (by simp)⟩

theorem splits_of {s o a b : Nat} (ha : s.testBit a = true) (hb : s.testBit b = true) (h : o.testBit a ≠ o.testBit b) : splits o s = true := by
  have key : ∀ x y, s.testBit x = true → s.testBit y = true → o.testBit x = true → o.testBit y = false → splits o s = true := by
    intro x y hx hy ox oy
    have h1 : s &&& o ≠ 0 := fun e => by
      have : (s &&& o).testBit x = true := by rw [Nat.testBit_and, hx, ox]; rfl
      rw [e] at this
      simp at this
    have h2 : sdiff s o ≠ 0 := fun e => by
      have : (sdiff s o).testBit y = true := by rw [testBit_sdiff, hy, oy]; rfl
      rw [e] at this
      simp at this
    simp [splits, h1, h2]
  cases h1 : o.testBit a <;> cases h2 : o.testBit b
  · rw [h1, h2] at h; exact absurd rfl h
  · exact key b a hb ha h2 h1
  · exact key a b ha hb h1 h2
  · rw [h1, h2] at h; exact absurd rfl h

theorem exists_split {ones : List Nat} {n s : Nat} (hn : n ≤ 10) (hal : alikeL ones n = []) (hs : s < 2 ^ n) (h0 : s ≠ 0) (hp : pop s ≠ 1) : ∃ k, k < ones.length ∧ splits (ones.getD k 0) s = true := by
  have h1 : s < 1024 := Nat.lt_of_lt_of_le hs (Nat.le_trans (Nat.pow_le_pow_right (by omega) hn) (by decide : 2 ^ 10 ≤ 1024))
  obtain ⟨a, b, hab, ha, hb⟩ := two_bits h1 h0 hp
  obtain ⟨x, hx, hd⟩ := (alikeL_nil_iff ones n).1 hal b a (testBit_lt hs hb) hab
  obtain ⟨k, hk, rfl⟩ := List.getElem_of_mem hx
  exact ⟨k, hk, splits_of ha hb (by simpa [List.getD, hk] using hd)⟩

theorem stepCh_range (m : Meas) (ones : List Nat) (cost : Nat → Int) (s : Nat) : ∀ k, ((stepCh m ones cost s k).1 = -1 ∧ ∀ j, j < k → splits (ones.getD j 0) s = false) ∨
    ∃ j : Nat, (stepCh m ones cost s k).1 = (j : Int) ∧ j < k ∧ splits (ones.getD j 0) s = true ∧ (stepCh m ones cost s k).2 = m j s (cost (sdiff s (ones.getD j 0))) (cost (s &&& ones.getD j 0))
  | 0 => .inl ⟨rfl, fun j hj => by omega⟩
  | k + 1 => by
    have ih := stepCh_range m ones cost s k
    rw [stepCh]
    dsimp only
    by_cases hsp : splits (ones.getD k 0) s = true
    · rw [if_pos hsp]
      split
      · exact .inr ⟨k, rfl, by omega, hsp, rfl⟩
      · rename_i hno
        rcases ih with ⟨h1, _⟩ | ⟨j, h1, h2, h3⟩
        · exact absurd (.inl (by omega)) hno
        · exact .inr ⟨j, h1, by omega, h3⟩
    · rw [if_neg hsp]
      rcases ih with ⟨h1, h3⟩ | ⟨j, h1, h2, h3⟩
      · refine .inl ⟨h1, fun j hj => ?_⟩
        rcases Nat.lt_or_eq_of_le (Nat.le_of_lt_succ hj) with h | rfl
        · exact h3 j h
        · simpa using hsp
      · exact .inr ⟨j, h1, by omega, h3⟩

def bestSel (m : Meas) (ones : List Nat) (s : Nat) : Nat := (choice m ones s).1.toNat

theorem bestSel_ok {m : Meas} {ones : List Nat} {s : Nat} (h : ∃ k, k < ones.length ∧ splits (ones.getD k 0) s = true) :
    (choice m ones s).1 = (bestSel m ones s : Int) ∧ bestSel m ones s < ones.length ∧ splits (ones.getD (bestSel m ones s) 0) s = true ∧
      (choice m ones s).2 = m (bestSel m ones s) s (cost m ones (sdiff s (ones.getD (bestSel m ones s) 0))) (cost m ones (s &&& ones.getD (bestSel m ones s) 0)) := by
  obtain ⟨k, hk, hsp⟩ := h
  rcases stepCh_range m ones (cost m ones) s ones.length with ⟨_, h3⟩ | ⟨j, h1, h2, h3, h4⟩
  · rw [h3 k hk] at hsp; cases hsp
  · have e : bestSel m ones s = j := by unfold bestSel choice; rw [h1]; rfl
    rw [e]
    exact ⟨h1, h2, h3, h4⟩

theorem greedySel_ok {C : CaseD} (hok : caseOk C = true) {s : Nat} (h : ∃ k, k < C.ts.length ∧ splits ((C.ts.map mask).getD k 0) s = true) :
    greedySel C s < C.ts.length ∧ splits ((C.ts.map mask).getD (greedySel C s) 0) s = true := by
  obtain ⟨k, hk, hsp⟩ := h
  rcases gTo_range hok s C.ts.length with ⟨_, _, h3⟩ | ⟨⟨j, h1, h2, h3⟩, _⟩
  · rw [h3 k hk] at hsp; cases hsp
  · have e : greedySel C s = j := by unfold greedySel; rw [h1]; rfl
    rw [e]
    exact ⟨h2, h3⟩

theorem greedySelOk {C : CaseD} (hok : caseOk C = true) (hal : alikeL (C.ts.map mask) C.ws.length = []) : SelOk (C.ts.map mask) C.ws.length (greedySel C) fun _ => True where
  ok := fun s _ hs h0 hp => by
    have h := exists_split (caseOk_n hok).2 hal hs h0 hp
    rw [List.length_map] at h
    obtain ⟨a, b⟩ := greedySel_ok hok h
    exact ⟨by simpa using a, b, trivial, trivial⟩

theorem bestSelOk {C : CaseD} {m : Meas} {M : List (Int × Value)} (hok : caseOk C = true) (hal : alikeL (C.ts.map mask) C.ws.length = []) (hG : GoodM m (C.ts.map mask) C.ws.length M) :
    SelOk (C.ts.map mask) C.ws.length (bestSel m (C.ts.map mask)) (InM M) where
  ok := fun s hd hs h0 hp => by
    obtain ⟨_, a, b, _⟩ := bestSel_ok (m := m) (exists_split (caseOk_n hok).2 hal hs h0 hp)
    obtain ⟨v, hv⟩ := Option.isSome_iff_exists.1 (hd.resolve_left hp)
    obtain ⟨_, _, h3⟩ := hG s v hv
    exact ⟨a, b, h3 _ a b⟩
theorem bestSelFree {m : Meas} {ones : List Nat} {n : Nat} (hn : n ≤ 10) (hal : alikeL ones n = []) : SelOk ones n (bestSel m ones) fun _ => True where
  ok := fun s _ hs h0 hp => by
    obtain ⟨_, a, b, _⟩ := bestSel_ok (m := m) (exists_split hn hal hs h0 hp)
    exact ⟨a, b, trivial, trivial⟩
end Go.Proofs.YtdbendnfgkonbaaDoor
