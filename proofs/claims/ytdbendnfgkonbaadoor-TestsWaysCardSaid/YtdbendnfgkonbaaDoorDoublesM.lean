/- Costs set in place; what TestsDoubles asks, as plain mathematics. -/
import Derived.Test.YtdbendnfgkonbaaDoorMathF
namespace Go.Proofs.YtdbendnfgkonbaaDoor
open Go.RowKit
set_option linter.unusedVariables false
set_option linter.unusedSimpArgs false

theorem own_at {w : World} {B : Nat} {e : TypeId} {size : Nat} {a : Option Addr} {n m k : Nat} {cs : List Value} (h : w.ownsRow B e size (.slice a m k) n cs) (hn : 0 < n) : ∃ g, a = some ⟨g, 0, none⟩ ∧ B ≤ g ∧ g < w.heap.size := by
  rcases h.2 with ⟨hv, h0⟩ | ⟨g, cap, cur, hv, _⟩
  · cases hv; omega
  · cases hv
    exact ⟨g, rfl, h.lt g rfl⟩

/-- A store into an owned list of numbers. -/
theorem own_set {w : World} {B : Nat} {g n k i : Nat} {xs : List Int} {x : Int} (h : w.ownsRow B 3 1 (.slice (some ⟨g, 0, none⟩) n k) n (intVals xs)) :
    (w.setCell ⟨g, i, none⟩ (.int .i64 x)).ownsRow B 3 1 (.slice (some ⟨g, 0, none⟩) n k) n (intVals (xs.set i x)) := by
  have := (h.stored i (.int .i64 x)).1
  unfold intVals at this ⊢
  rw [List.map_set]
  exact this

theorem oext_set (w : World) (g i : Nat) (v : Value) : OExt w (w.setCell ⟨g, i, none⟩ v) (some g) none :=
  ⟨rfl, rfl, rfl, by simp, fun k hk h1 _ => heap_setCell_other w ⟨g, i, none⟩ k v (fun e => h1 (by rw [e]))⟩

theorem OC.setC {w : World} {B : Nat} {C : CaseD} {aw at_ : Option Addr} {kw kt kc g i : Nat} {x : Int} {rv : List Value} (h : OC w B C aw at_ (some ⟨g, 0, none⟩) kw kt kc rv) :
    OC (w.setCell ⟨g, i, none⟩ (.int .i64 x)) B ⟨C.ws, C.ts, C.cs.set i x⟩ aw at_ (some ⟨g, 0, none⟩) kw kt kc rv := by
  have e1 : (C.cs.set i x).length = C.cs.length := by simp
  have ho := oext_set w g i (.int .i64 x)
  have hne1 : ∀ b, (Value.slice aw C.ws.length kw).ownBlock = some b → b ≠ g := fun b hb e => h.sep b hb (by rw [e]; rfl)
  have hne2 : ∀ b, (Value.slice at_ C.ts.length kt).ownBlock = some b → b ≠ g := fun b hb e => own_types h.ot h.oc (by decide) hb (by rw [e]; rfl)
  refine ⟨own_off h.ow ho fun b hb => ⟨fun e => hne1 b hb (by cases e; rfl), by simp⟩, own_off h.ot ho fun b hb => ⟨fun e => hne2 b hb (by cases e; rfl), by simp⟩, ?_, fun j xs hx => ?_, fun b hb e => ?_⟩
  · dsimp only
    rw [e1]
    exact own_set h.oc
  · dsimp only at hx ⊢
    rw [e1]
    obtain ⟨a, k, h1, h2, h3, h4⟩ := h.rows j xs hx
    refine ⟨a, k, h1, h2, CellsAt.off h3 ho fun b o hb => ⟨?_, by simp⟩, fun b o hb => ?_⟩
    · have := (h4 b o hb).2.2
      exact this
    · have := h4 b o hb
      simpa using this
  · have := h.sep b hb
    dsimp only at e
    rw [e1] at e
    exact this e

def onesTo (cs : List Int) (t : Nat) : List Int := List.replicate t 1 ++ cs.drop t
theorem onesTo_set (cs : List Int) (t : Nat) (h : t < cs.length) : (onesTo cs t).set t 1 = onesTo cs (t + 1) := by
  unfold onesTo
  rw [List.set_append_right _ _ (by simp), List.drop_eq_getElem_cons h, List.length_replicate, Nat.sub_self, List.set_cons_zero, List.replicate_succ', List.append_assoc]
  rfl
theorem onesTo_len (cs : List Int) (t : Nat) (h : t ≤ cs.length) : (onesTo cs t).length = cs.length := by simp [onesTo]; omega

theorem costs_ok {D : CaseD} (hok : caseOk D = true) (cs : List Int) (hl : cs.length = D.cs.length) (h : ∀ x ∈ cs, 1 ≤ x ∧ x ≤ 100) : caseOk ⟨D.ws, D.ts, cs⟩ = true := by
  have h0 := hok
  simp only [caseOk, Bool.and_eq_true, decide_eq_true_eq] at h0 ⊢
  obtain ⟨⟨⟨⟨⟨h1, h2⟩, h3⟩, h4⟩, h5⟩, h6⟩ := h0
  refine ⟨⟨⟨⟨⟨h1, h2⟩, by omega⟩, h4⟩, ?_⟩, h6⟩
  have : badCs cs = false := by
    unfold badCs
    rw [List.any_eq_false]
    intro x hx
    have := (inR_iff x 1 100).2 (h x hx)
    rw [this]; decide
  rw [this]; rfl

theorem doubles_law {D : CaseD} (hok : caseOk D = true) (hal : alikeL (D.ts.map mask) D.ws.length = []) (h1 : ∀ k, k < D.ts.length → D.cs.getD k 0 = 1) (d : Nat) (hd : ∀ j, j < d → 2 ^ j < D.ws.length) :
    (d : Int) ≤ bestCost D (worstM D) ∧ bestCost D (worstM D) ≤ (D.ws.length : Int) - 1 ∧ d ≤ (coverL (D.ts.map mask) D.ws.length D.ts.length).length ∧ bestCost D (worstM D) ≤ ((coverL (D.ts.map mask) D.ws.length D.ts.length).length : Int) := by
  have hn := caseOk_n hok
  have e : D.ts.length = (D.ts.map mask).length := by simp
  have hm : OneM (worstM D) (D.ts.map mask).length := fun k s z o hk => by
    rw [← e] at hk
    unfold worstM
    rw [h1 k hk]
  have hp : 0 < 2 ^ D.ws.length := Nat.pow_pos (by omega)
  have hp2 : 2 ≤ 2 ^ D.ws.length := by
    have := Nat.pow_le_pow_right (n := 2) (by omega) hn.1
    omega
  have hall := pop_all D.ws.length hn.2
  obtain ⟨b1, b2, b3⟩ := one_bounds hn.2 hal hm 10 (2 ^ D.ws.length - 1) (by rw [hall]; exact hn.2) (by omega) (by omega)
  rw [hall] at b2 b3
  have hdv := (coverL_spec hal).1
  have hlt := coverL_lt hal
  rw [← e] at hdv hlt
  have hw := divides_pow hdv
  have hlist := one_list hn.2 hm _ (coverL (D.ts.map mask) D.ws.length D.ts.length) (2 ^ D.ws.length - 1) (Nat.le_refl _) (by rw [← e]; exact hlt) (by omega) (by omega) fun a b ha hb hab =>
    (dividesB_iff _ _ _).1 hdv b a (testBit_lt (n := D.ws.length) (by omega) hb) hab
  have up : ∀ q : Nat, D.ws.length ≤ 2 ^ q → d ≤ q := fun q hq => by
    refine Classical.byContradiction fun hn => ?_
    have := hd q (by omega)
    omega
  unfold bestCost
  refine ⟨?_, b2, up _ hw, hlist⟩
  have := up _ b3
  omega
end Go.Proofs.YtdbendnfgkonbaaDoor
