/- Contracts: add, the recursive closure of plan, and plan itself. -/
import Derived.Test.YtdbendnfgkonbaaDoorBest
import Derived.Deep.RegionLaw
namespace Go.Proofs.YtdbendnfgkonbaaDoor
open Go.RowKit
set_option linter.unusedVariables false
set_option linter.unusedSimpArgs false

structure NodeD where
  test : Int
  fault : Int
  zero : Int
  one : Int
deriving DecidableEq, Inhabited

def cellsN (x : NodeD) : List Value := [.int .i64 x.test, .int .i64 x.fault, .int .i64 x.zero, .int .i64 x.one]
def nodeCells (l : List NodeD) : List Value := l.flatMap cellsN
theorem nodeCells_len (l : List NodeD) : (nodeCells l).length = l.length * 4 := by
  induction l with
  | nil => rfl
  | cons x r ih => simp only [nodeCells, List.flatMap_cons, List.length_append, List.length_cons] at ih ⊢; rw [ih]; simp [cellsN]; omega
theorem nodeCells_app (l r : List NodeD) : nodeCells (l ++ r) = nodeCells l ++ nodeCells r := by simp [nodeCells]

/-- The plan whose tests sel selects, its first position by. -/
def planF (sel : Nat → Nat) (ones : List Nat) : Nat → Nat → Nat → List NodeD
  | 0, _, _ => []
  | f + 1, s, by_ =>
    if pop s = 1 then [⟨-1, tz s, 0, 0⟩]
    else
      let o := ones.getD (sel s) 0
      let zs := planF sel ones f (sdiff s o) (by_ + 1)
      let os := planF sel ones f (s &&& o) (by_ + 1 + zs.length)
      ⟨sel s, 0, by_ + 1, by_ + 1 + zs.length⟩ :: (zs ++ os)
def planL (sel : Nat → Nat) (ones : List Nat) (s by_ : Nat) : List NodeD := planF sel ones (pop s) s by_

/-- A choice of tests that splits. -/
structure SelOk (ones : List Nat) (n : Nat) (sel : Nat → Nat) (dom : Nat → Prop) : Prop where
  ok : ∀ s, dom s → s < 2 ^ n → s ≠ 0 → pop s ≠ 1 → sel s < ones.length ∧ splits (ones.getD (sel s) 0) s = true ∧ dom (s &&& ones.getD (sel s) 0) ∧ dom (sdiff s (ones.getD (sel s) 0))

theorem planF_enough {ones : List Nat} {n : Nat} {sel : Nat → Nat} {dom : Nat → Prop} (hn : n ≤ 10) (h : SelOk ones n sel dom) : ∀ f s by_, dom s → s < 2 ^ n → s ≠ 0 → pop s ≤ f → planF sel ones f s by_ = planF sel ones (f + 1) s by_
  | 0, s, by_, _, hs, h0, hp => by
    have := pop_pos (Nat.lt_of_lt_of_le hs (Nat.le_trans (Nat.pow_le_pow_right (by omega) hn) (by decide : 2 ^ 10 ≤ 1024))) h0
    omega
  | f + 1, s, by_, hd, hs, h0, hp => by
    have hs10 : s < 1024 := Nat.lt_of_lt_of_le hs (Nat.le_trans (Nat.pow_le_pow_right (by omega) hn) (by decide : 2 ^ 10 ≤ 1024))
    rw [planF]
    conv => rhs; rw [planF]
    by_cases hp1 : pop s = 1
    · rw [if_pos hp1, if_pos hp1]
    · rw [if_neg hp1, if_neg hp1]
      obtain ⟨h1, h2, h3, h4⟩ := h.ok s hd hs h0 hp1
      obtain ⟨a1, a2, a3, a4⟩ := splits_parts hs10 h2
      have e1 := fun b => planF_enough hn h f (sdiff s (ones.getD (sel s) 0)) b h4 (sdiff_lt hs) a2 (by omega)
      have e2 := fun b => planF_enough hn h f (s &&& ones.getD (sel s) 0) b h3 (and_lt hs) a1 (by omega)
      dsimp only
      rw [← e1, ← e2]

theorem planF_up {ones : List Nat} {n : Nat} {sel : Nat → Nat} {dom : Nat → Prop} (hn : n ≤ 10) (h : SelOk ones n sel dom) (s by_ : Nat) (hd : dom s) (hs : s < 2 ^ n) (h0 : s ≠ 0) : ∀ d, planF sel ones (pop s + d) s by_ = planL sel ones s by_
  | 0 => rfl
  | d + 1 => by rw [← planF_up hn h s by_ hd hs h0 d, ← Nat.add_assoc]; exact (planF_enough hn h _ s by_ hd hs h0 (by omega)).symm

theorem planL_leaf (sel : Nat → Nat) (ones : List Nat) (s by_ : Nat) (h : pop s = 1) : planL sel ones s by_ = [⟨-1, tz s, 0, 0⟩] := by
  unfold planL
  rw [h, planF, if_pos h]

theorem planL_node {ones : List Nat} {n : Nat} {sel : Nat → Nat} {dom : Nat → Prop} (hn : n ≤ 10) (h : SelOk ones n sel dom) (s by_ : Nat) (hd : dom s) (hs : s < 2 ^ n) (h0 : s ≠ 0) (hp1 : pop s ≠ 1) :
    planL sel ones s by_ = ⟨sel s, 0, by_ + 1, by_ + 1 + (planL sel ones (sdiff s (ones.getD (sel s) 0)) (by_ + 1)).length⟩ ::
      (planL sel ones (sdiff s (ones.getD (sel s) 0)) (by_ + 1) ++ planL sel ones (s &&& ones.getD (sel s) 0) (by_ + 1 + (planL sel ones (sdiff s (ones.getD (sel s) 0)) (by_ + 1)).length)) := by
  have hs10 : s < 1024 := Nat.lt_of_lt_of_le hs (Nat.le_trans (Nat.pow_le_pow_right (by omega) hn) (by decide : 2 ^ 10 ≤ 1024))
  obtain ⟨h1, h2, h3, h4⟩ := h.ok s hd hs h0 hp1
  obtain ⟨a1, a2, a3, a4⟩ := splits_parts hs10 h2
  have hp0 := pop_pos hs10 h0
  have e1 := fun b => planF_up hn h (sdiff s (ones.getD (sel s) 0)) b h4 (sdiff_lt hs) a2 (pop s - 1 - pop (sdiff s (ones.getD (sel s) 0)))
  have e2 := fun b => planF_up hn h (s &&& ones.getD (sel s) 0) b h3 (and_lt hs) a1 (pop s - 1 - pop (s &&& ones.getD (sel s) 0))
  rw [show pop (sdiff s (ones.getD (sel s) 0)) + (pop s - 1 - pop (sdiff s (ones.getD (sel s) 0))) = pop s - 1 by omega] at e1
  rw [show pop (s &&& ones.getD (sel s) 0) + (pop s - 1 - pop (s &&& ones.getD (sel s) 0)) = pop s - 1 by omega] at e2
  conv => lhs; unfold planL
  obtain ⟨q, hq⟩ : ∃ q, pop s = q + 1 := ⟨pop s - 1, by omega⟩
  rw [hq, Nat.add_sub_cancel] at e1 e2
  rw [hq, planF, if_neg hp1]
  dsimp only
  rw [e1, e2]

theorem planL_len {ones : List Nat} {n : Nat} {sel : Nat → Nat} {dom : Nat → Prop} (hn : n ≤ 10) (h : SelOk ones n sel dom) : ∀ N s by_, pop s ≤ N → dom s → s < 2 ^ n → s ≠ 0 → (planL sel ones s by_).length + 1 = 2 * pop s
  | 0, s, by_, hp, hd, hs, h0 => by
    have := pop_pos (Nat.lt_of_lt_of_le hs (Nat.le_trans (Nat.pow_le_pow_right (by omega) hn) (by decide : 2 ^ 10 ≤ 1024))) h0
    omega
  | N + 1, s, by_, hp, hd, hs, h0 => by
    have hs10 : s < 1024 := Nat.lt_of_lt_of_le hs (Nat.le_trans (Nat.pow_le_pow_right (by omega) hn) (by decide : 2 ^ 10 ≤ 1024))
    by_cases hp1 : pop s = 1
    · rw [planL_leaf _ _ _ _ hp1, hp1]; rfl
    · obtain ⟨h1, h2, h3, h4⟩ := h.ok s hd hs h0 hp1
      obtain ⟨a1, a2, a3, a4⟩ := splits_parts hs10 h2
      have l1 := fun b => planL_len hn h N (sdiff s (ones.getD (sel s) 0)) b (by omega) h4 (sdiff_lt hs) a2
      have l2 := fun b => planL_len hn h N (s &&& ones.getD (sel s) 0) b (by omega) h3 (and_lt hs) a1
      have hsp := pop_split s (ones.getD (sel s) 0)
      rw [planL_node hn h s by_ hd hs h0 hp1]
      have b1 := l1 (by_ + 1)
      have b2 := l2 (by_ + 1 + (planL sel ones (sdiff s (ones.getD (sel s) 0)) (by_ + 1)).length)
      simp only [List.length_cons, List.length_append]
      omega
end Go.Proofs.YtdbendnfgkonbaaDoor
