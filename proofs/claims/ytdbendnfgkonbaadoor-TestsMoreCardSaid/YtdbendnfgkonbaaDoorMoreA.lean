/- Lemmas for the walk of TestsMore. -/
import Derived.Test.YtdbendnfgkonbaaDoorMathH
import Derived.Test.YtdbendnfgkonbaaDoorCopyCase
import Derived.Test.YtdbendnfgkonbaaDoorWithout
import Derived.Test.YtdbendnfgkonbaaDoorTame
import Derived.Test.YtdbendnfgkonbaaDoorAwake
import Derived.Deep.DeepCutAuto
namespace Go.Proofs.YtdbendnfgkonbaaDoor
open Go.RowKit
set_option linter.unusedVariables false
set_option linter.unusedSimpArgs false

/-- A list of which the first t numbers have been turned. -/
def updTo (f : Int → Int) (cs : List Int) (t : Nat) : List Int := (cs.take t).map f ++ cs.drop t
theorem updTo_zero (f : Int → Int) (cs : List Int) : updTo f cs 0 = cs := by simp [updTo]
theorem updTo_len (f : Int → Int) (cs : List Int) (t : Nat) : (updTo f cs t).length = cs.length := by simp [updTo]; omega
theorem updTo_all (f : Int → Int) (cs : List Int) : updTo f cs cs.length = cs.map f := by simp [updTo]
theorem updTo_get (f : Int → Int) (cs : List Int) (t : Nat) (h : t < cs.length) : (updTo f cs t)[t]? = cs[t]? := by
  unfold updTo
  rw [List.getElem?_append_right (by simp; omega)]
  simp [Nat.min_eq_left (Nat.le_of_lt h)]
theorem updTo_set (f : Int → Int) (cs : List Int) (t : Nat) (x : Int) (h : cs[t]? = some x) : (updTo f cs t).set t (f x) = updTo f cs (t + 1) := by
  obtain ⟨ht, rfl⟩ := List.getElem?_eq_some_iff.1 h
  unfold updTo
  have hl : ((cs.take t).map f).length = t := by simp; omega
  rw [List.set_append_right _ _ (by omega), hl, Nat.sub_self, List.drop_eq_getElem_cons ht, List.set_cons_zero, List.take_succ_eq_append_getElem ht, List.map_append, List.append_assoc]
  rfl

/-- A case whose box lies at b. -/
structure Boxed (w0 w : World) (B b : Nat) (C : CaseD) (n T : Nat) (aw at_ ac : Option Addr) (kw kt kc : Nat) (rv : List Value) : Prop where
  ext : Ext w0 w
  box : w.heap[b]? = some (.cells #[.slice aw n kw, .slice at_ T kt, .slice ac T kc] 25 (0, 0))
  oc : OC w B C aw at_ ac kw kt kc rv
  hn : C.ws.length = n
  ht : C.ts.length = T
  hc : C.cs.length = T
  hb : w0.heap.size ≤ b
  hB : w0.heap.size ≤ B
theorem Boxed.later {w0 w w' : World} {B b n T : Nat} {C : CaseD} {aw at_ ac : Option Addr} {kw kt kc : Nat} {rv : List Value} (h : Boxed w0 w B b C n T aw at_ ac kw kt kc rv) (hx : Ext w w') : Boxed w0 w' B b C n T aw at_ ac kw kt kc rv :=
  ⟨h.ext.trans hx, heap_ext h.box hx, h.oc.ext hx, h.hn, h.ht, h.hc, h.hb, h.hB⟩
theorem Boxed.case {w0 w : World} {B b n T : Nat} {C : CaseD} {aw at_ ac : Option Addr} {kw kt kc : Nat} {rv : List Value} (h : Boxed w0 w B b C n T aw at_ ac kw kt kc rv) : CaseAt w (.agg #[.slice aw n kw, .slice at_ T kt, .slice ac T kc]) C := by
  have := h.oc.case
  rw [h.hn, h.ht, h.hc] at this
  exact this
theorem Boxed.cost {w0 w : World} {B b n T : Nat} {C : CaseD} {aw at_ : Option Addr} {g kw kt kc : Nat} {rv : List Value} (h : Boxed w0 w B b C n T aw at_ (some ⟨g, 0, none⟩) kw kt kc rv) {t : Nat} (ht : t < T) :
    ∃ c, w.cell? ⟨g, t, none⟩ = some (.int .i64 c) ∧ w.frozen? ⟨g, t, none⟩ = false ∧ C.cs[t]? = some c := by
  obtain ⟨_, _, hc⟩ := cells_of_own' h.oc.oc
  have htc : t < C.cs.length := by rw [h.hc]; exact ht
  obtain ⟨b', o, he, hcc⟩ := hc t (.int .i64 C.cs[t]) (by simp [intVals, htc])
  cases he
  refine ⟨C.cs[t], by simpa using hcc, ?_, List.getElem?_eq_getElem htc⟩
  have := h.oc.oc.frozenAt t
  simpa using this
theorem Boxed.setC {w0 w : World} {B b n T : Nat} {C : CaseD} {aw at_ : Option Addr} {g kw kt kc : Nat} {rv : List Value} (h : Boxed w0 w B b C n T aw at_ (some ⟨g, 0, none⟩) kw kt kc rv) (t : Nat) (x : Int) (hgb : g ≠ b) (hg : w0.heap.size ≤ g) :
    Boxed w0 (w.setCell ⟨g, t, none⟩ (.int .i64 x)) B b ⟨C.ws, C.ts, C.cs.set t x⟩ n T aw at_ (some ⟨g, 0, none⟩) kw kt kc rv :=
  ⟨((OExt.of_ext h.ext none none).set hg).to (Ext.refl w0) (fun k h => by cases h) (fun k h => by cases h), heap_set_other h.box (by simp; omega), h.oc.setC, h.hn, h.ht, by show (C.cs.set t x).length = T; rw [List.length_set]; exact h.hc, h.hb, h.hB⟩
theorem Boxed.sep {w0 w : World} {B b n T : Nat} {C : CaseD} {aw at_ : Option Addr} {g kw kt kc : Nat} {rv : List Value} (h : Boxed w0 w B b C n T aw at_ (some ⟨g, 0, none⟩) kw kt kc rv) : g ≠ b := fun e => by
  have := own_ne_heap h.oc.oc h.box (by decide)
  exact this (by rw [e]; rfl)
/-- with, told by what it leaves alone. -/
theorem OC.withE {w : World} {B : Nat} {C : CaseD} {aw at_ ac ra : Option Addr} {kw kt kc rk nw nt nc rn : Nat} {rv : List Value} {xs : List Int} {x : Int} (h : OC w B C aw at_ ac kw kt kc rv)
    (hr : RowOff w ra xs (Value.slice at_ C.ts.length kt).ownBlock (Value.slice ac C.cs.length kc).ownBlock) (hrk : xs.length ≤ rk) (hB : B ≤ w.heap.size) (hnw : C.ws.length = nw) (hnt : C.ts.length = nt) (hnc : C.cs.length = nc) (hrn : xs.length = rn)
    (h1 : nt ≤ 1000) (h2 : nc ≤ 1000) :
    Calls Tryd.prog 27 #[.agg #[.slice aw nw kw, .slice at_ nt kt, .slice ac nc kc], .slice ra rn rk, .int .i64 x] w fun e w' => ∃ gt gc kt' kc' rv',
      e = .returned (.agg #[.slice aw nw kw, .slice (some ⟨gt, 0, none⟩) (nt + 1) kt', .slice (some ⟨gc, 0, none⟩) (nc + 1) kc']) ∧
      OC w' B ⟨C.ws, C.ts ++ [xs], C.cs ++ [x]⟩ aw (some ⟨gt, 0, none⟩) (some ⟨gc, 0, none⟩) kw kt' kc' rv' ∧ OExt w w' (Value.slice at_ nt kt).ownBlock (Value.slice ac nc kc).ownBlock := by
  subst hnw hnt hnc hrn
  refine (with_any B aw at_ ac ra C.ws.length kw kt kc xs.length rk C.ts.length C.cs.length rv C.cs x w h.ot h.oc hB h1 h2).mono ?_
  rintro e w' ⟨gt, gc, kt', kc', rfl, ht, hc, ho, hgt, hgc⟩
  exact ⟨gt, gc, kt', kc', _, rfl, h.with hr hrk ht hc ho hgt hgc, ho⟩

/-- A box of cells is left alone by with. -/
theorem OExt.box {w w' : World} {B : Nat} {C : CaseD} {aw at_ ac : Option Addr} {kw kt kc nt nc : Nat} {rv : List Value} {b : Nat} {cs : Array Value} {fr : Nat × Nat} (h : OExt w w' (Value.slice at_ nt kt).ownBlock (Value.slice ac nc kc).ownBlock)
    (hoc : OC w B C aw at_ ac kw kt kc rv) (hnt : C.ts.length = nt) (hnc : C.cs.length = nc) (hb : w.heap[b]? = some (.cells cs 25 fr)) : w'.heap[b]? = some (.cells cs 25 fr) := by
  subst hnt hnc
  exact h.heap hb (fun e => own_ne_heap hoc.ot hb (by decide) e.symm) (fun e => own_ne_heap hoc.oc hb (by decide) e.symm)

theorem set3_ext {w0 w : World} {b : Nat} {u0 u1 u2 : Value} (h : Ext w0 w) (hb : w0.heap.size ≤ b) : Ext w0 (((w.setCell ⟨b, 0, none⟩ u0).setCell ⟨b, 1, none⟩ u1).setCell ⟨b, 2, none⟩ u2) :=
  ((((OExt.of_ext h none none).set hb).set hb).set hb).to (Ext.refl w0) (fun k h => by cases h) (fun k h => by cases h)
theorem Boxed.ofAlloc {w0 w : World} {B B' n T : Nat} {C : CaseD} {aw at_ ac : Option Addr} {kw kt kc : Nat} {rv : List Value} (hx : Ext w0 w) (hoc : OC w B C aw at_ ac kw kt kc rv) (hB : B' ≤ B) (hB0 : w0.heap.size ≤ B') (hn : C.ws.length = n) (ht : C.ts.length = T) (hc : C.cs.length = T) :
    Boxed w0 (w.alloc (.cells #[.slice aw n kw, .slice at_ T kt, .slice ac T kc] 25)) B' w.heap.size C n T aw at_ ac kw kt kc rv :=
  ⟨hx.trans (Ext.alloc _ _), heap_alloc_new _ _, (hoc.base hB).ext (Ext.alloc _ _), hn, ht, hc, hx.size, hB0⟩
theorem Boxed.ofSet3 {w0 w : World} {B B' b n T : Nat} {C : CaseD} {aw at_ ac a0 a1 a2 : Option Addr} {kw kt kc n0 k0 n1 k1 n2 k2 : Nat} {rv : List Value} (hx : Ext w0 w) (hoc : OC w B C aw at_ ac kw kt kc rv) (hB : B' ≤ B) (hB0 : w0.heap.size ≤ B') (hn : C.ws.length = n) (ht : C.ts.length = T) (hc : C.cs.length = T)
    (hz : w.heap[b]? = some (.cells #[.slice a0 n0 k0, .slice a1 n1 k1, .slice a2 n2 k2] 25 (0, 0))) (hb : w0.heap.size ≤ b) :
    Boxed w0 (((w.setCell ⟨b, 0, none⟩ (.slice aw n kw)).setCell ⟨b, 1, none⟩ (.slice at_ T kt)).setCell ⟨b, 2, none⟩ (.slice ac T kc)) B' b C n T aw at_ ac kw kt kc rv := by
  obtain ⟨f1, f2⟩ := (hoc.base hB).boxT3 (c0 := aw) (m0 := n) (l0 := kw) (c1 := at_) (m1 := T) (l1 := kt) (c2 := ac) (m2 := T) (l2 := kc) hz
  exact ⟨set3_ext hx hb, f2, f1, hn, ht, hc, hb, hB0⟩
end Go.Proofs.YtdbendnfgkonbaaDoor
