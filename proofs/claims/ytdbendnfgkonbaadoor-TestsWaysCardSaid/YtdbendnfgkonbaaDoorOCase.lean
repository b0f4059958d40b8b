/- A case that the statement itself has made: what it owns; how with grows it. -/
import Derived.Test.YtdbendnfgkonbaaDoorWith
namespace Go.Proofs.YtdbendnfgkonbaaDoor
open Go.RowKit
set_option linter.unusedVariables false
set_option linter.unusedSimpArgs false

/-- A row lies at a, in none of two blocks. -/
def RowOff (w : World) (a : Option Addr) (xs : List Int) (r1 r2 : Option Nat) : Prop :=
  IntsAt w a xs ∧ ∀ b o, a = some ⟨b, o, none⟩ → b < w.heap.size ∧ some b ≠ r1 ∧ some b ≠ r2
theorem RowOff.ext {w w' : World} {a : Option Addr} {xs : List Int} {r1 r2 : Option Nat} (h : RowOff w a xs r1 r2) (hb : Ext w w') : RowOff w' a xs r1 r2 :=
  ⟨h.1.ext hb, fun b o ha => ⟨Nat.lt_of_lt_of_le (h.2 b o ha).1 hb.size, (h.2 b o ha).2⟩⟩

structure OC (w : World) (B : Nat) (C : CaseD) (aw at_ ac : Option Addr) (kw kt kc : Nat) (rv : List Value) : Prop where
  ow : w.ownsRow B 3 1 (.slice aw C.ws.length kw) C.ws.length (intVals C.ws)
  ot : w.ownsRow B 22 1 (.slice at_ C.ts.length kt) C.ts.length rv
  oc : w.ownsRow B 3 1 (.slice ac C.cs.length kc) C.cs.length (intVals C.cs)
  rows : ∀ (i : Nat) (xs : List Int), C.ts[i]? = some xs → ∃ a k, rv[i]? = some (Value.slice a xs.length k) ∧ xs.length ≤ k ∧ RowOff w a xs (Value.slice at_ C.ts.length kt).ownBlock (Value.slice ac C.cs.length kc).ownBlock
  sep : ∀ b, (Value.slice aw C.ws.length kw).ownBlock = some b → (Value.slice ac C.cs.length kc).ownBlock ≠ some b

theorem OC.ext {w w' : World} {B : Nat} {C : CaseD} {aw at_ ac : Option Addr} {kw kt kc : Nat} {rv : List Value} (h : OC w B C aw at_ ac kw kt kc rv) (hb : Ext w w') : OC w' B C aw at_ ac kw kt kc rv := by
  refine ⟨own_ext h.ow hb, own_ext h.ot hb, own_ext h.oc hb, fun i xs hx => ?_, h.sep⟩
  obtain ⟨a, k, h1, h2, h3⟩ := h.rows i xs hx
  exact ⟨a, k, h1, h2, h3.ext hb⟩

theorem OC.case {w : World} {B : Nat} {C : CaseD} {aw at_ ac : Option Addr} {kw kt kc : Nat} {rv : List Value} (h : OC w B C aw at_ ac kw kt kc rv) :
    CaseAt w (.agg #[.slice aw C.ws.length kw, .slice at_ C.ts.length kt, .slice ac C.cs.length kc]) C := by
  obtain ⟨_, w1, w2⟩ := cells_of_own' h.ow
  obtain ⟨_, t1, t2⟩ := cells_of_own' h.ot
  obtain ⟨_, c1, c2⟩ := cells_of_own' h.oc
  refine ⟨aw, kw, at_, kt, ac, kc, rfl, w1, t1, c1, w2, fun i xs hx => ?_, c2⟩
  obtain ⟨a, k, r1, r2, r3⟩ := h.rows i xs hx
  obtain ⟨b, off, e1, e2⟩ := t2 i _ r1
  exact ⟨b, off, a, k, e1, e2, r2, r3.1⟩

theorem OC.with {w w' : World} {B : Nat} {C : CaseD} {aw at_ ac ra : Option Addr} {kw kt kc rk gt gc kt' kc' : Nat} {rv : List Value} {xs : List Int} {x : Int} (h : OC w B C aw at_ ac kw kt kc rv)
    (hr : RowOff w ra xs (Value.slice at_ C.ts.length kt).ownBlock (Value.slice ac C.cs.length kc).ownBlock) (hrk : xs.length ≤ rk)
    (ht : w'.ownsRow B 22 1 (.slice (some ⟨gt, 0, none⟩) (C.ts.length + 1) kt') (C.ts.length + 1) (rv ++ [.slice ra xs.length rk]))
    (hc : w'.ownsRow B 3 1 (.slice (some ⟨gc, 0, none⟩) (C.cs.length + 1) kc') (C.cs.length + 1) (intVals (C.cs ++ [x])))
    (ho : OExt w w' (Value.slice at_ C.ts.length kt).ownBlock (Value.slice ac C.cs.length kc).ownBlock)
    (hgt : (Value.slice at_ C.ts.length kt).ownBlock = some gt ∨ w.heap.size ≤ gt) (hgc : (Value.slice ac C.cs.length kc).ownBlock = some gc ∨ w.heap.size ≤ gc) :
    OC w' B ⟨C.ws, C.ts ++ [xs], C.cs ++ [x]⟩ aw (some ⟨gt, 0, none⟩) (some ⟨gc, 0, none⟩) kw kt' kc' (rv ++ [.slice ra xs.length rk]) := by
  have e1 : (C.ts ++ [xs]).length = C.ts.length + 1 := by simp
  have e2 : (C.cs ++ [x]).length = C.cs.length + 1 := by simp
  have hrow : ∀ a ys, RowOff w a ys (Value.slice at_ C.ts.length kt).ownBlock (Value.slice ac C.cs.length kc).ownBlock → RowOff w' a ys (some gt) (some gc) := by
    intro a ys hy
    refine ⟨CellsAt.off hy.1 ho fun b o ha => (hy.2 b o ha).2, fun b o ha => ?_⟩
    obtain ⟨h1, h2, h3⟩ := hy.2 b o ha
    refine ⟨Nat.lt_of_lt_of_le h1 ho.size, fun e => ?_, fun e => ?_⟩
    · rcases hgt with hg | hg
      · exact h2 (by rw [hg]; exact e)
      · cases e; omega
    · rcases hgc with hg | hg
      · exact h3 (by rw [hg]; exact e)
      · cases e; omega
  refine ⟨?_, ?_, ?_, ?_, ?_⟩
  · exact own_off h.ow ho fun g hg => ⟨fun e => own_types h.ot h.ow (by decide) e.symm hg, fun e => h.sep g hg e.symm⟩
  · dsimp only; rw [e1]; exact ht
  · dsimp only; rw [e2]; exact hc
  · dsimp only
    intro i ys hy
    rcases Nat.lt_or_ge i C.ts.length with hi | hi
    · rw [List.getElem?_append_left hi] at hy
      obtain ⟨a, k, h1, h2, h3⟩ := h.rows i ys hy
      have hil : i < rv.length := (List.getElem?_eq_some_iff.1 h1).1
      exact ⟨a, k, by rw [List.getElem?_append_left hil]; exact h1, h2, hrow a ys h3⟩
    · rw [List.getElem?_append_right hi] at hy
      have hlen : rv.length = C.ts.length := by have := h.ot.1; simpa using this
      have hi0 : i - C.ts.length = 0 := by
        rcases Nat.eq_zero_or_pos (i - C.ts.length) with h0 | h0
        · exact h0
        · rw [List.getElem?_eq_none (by simp; omega)] at hy; cases hy
      rw [hi0] at hy
      cases hy
      exact ⟨ra, rk, by rw [List.getElem?_append_right (by omega), hlen, hi0]; rfl, hrk, hrow ra xs hr⟩
  · intro b hb e
    rcases hgc with hg | hg
    · exact h.sep b hb (by rw [hg]; exact e)
    · have := (h.ow.lt b hb).2
      have : gc = b := by cases e; rfl
      omega
end Go.Proofs.YtdbendnfgkonbaaDoor
