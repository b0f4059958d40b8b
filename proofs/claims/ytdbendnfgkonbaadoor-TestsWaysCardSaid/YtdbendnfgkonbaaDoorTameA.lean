/- The case that tame makes, as data; lemmas for its walk. -/
import Derived.Test.YtdbendnfgkonbaaDoorOCase
namespace Go.Proofs.YtdbendnfgkonbaaDoor
open Go.RowKit
set_option linter.unusedVariables false
set_option linter.unusedSimpArgs false

def tameN (C : CaseD) : Nat := (1 + modI ((C.ws.length : Int) - 1) 10).toNat
theorem tameN_bd (C : CaseD) : 1 ≤ tameN C ∧ tameN C ≤ 10 := by
  have := modI_bd ((C.ws.length : Int) - 1) (n := 10) (by decide)
  unfold tameN
  omega
theorem tameN_int (C : CaseD) : (tameN C : Int) = 1 + modI ((C.ws.length : Int) - 1) 10 := by
  have := modI_bd ((C.ws.length : Int) - 1) (n := 10) (by decide)
  unfold tameN
  omega
def tameW (C : CaseD) (i : Nat) : Int := if C.ws.getD i 0 < 1 ∨ 1000 < C.ws.getD i 0 then 1 + modI (C.ws.getD i 0) 1000 else C.ws.getD i 0
def tameRow (C : CaseD) (t : Nat) : List Int := (List.range (tameN C)).map fun i => modI ((C.ts.getD t []).getD i 0) 2
def bitRow (n bit : Nat) : List Int := (List.range n).map fun i => ((i / 2 ^ bit % 2 : Nat) : Int)
def tameTo (C : CaseD) (t b : Nat) : CaseD :=
  ⟨(List.range (tameN C)).map (tameW C), (List.range t).map (tameRow C) ++ (List.range b).map (bitRow (tameN C)),
    (List.range t).map (fun t => 1 + modI (C.cs.getD t 0 - 1) 100) ++ (List.range b).map fun b => 1 + modI (C.cs.getD b 0) 100⟩
def tameD (C : CaseD) : CaseD := tameTo C (min C.ts.length 6) 4

theorem modI_wrap (x n : Int) : modI (IntKind.i64.wrap x) n = modI x n := by
  unfold modI
  congr 1
  simp [IntKind.wrap, IntKind.bits, IntKind.signed]
  omega

theorem tameTo_t (C : CaseD) (t : Nat) : tameTo C (t + 1) 0 = ⟨(tameTo C t 0).ws, (tameTo C t 0).ts ++ [tameRow C t], (tameTo C t 0).cs ++ [1 + modI (C.cs.getD t 0 - 1) 100]⟩ := by
  simp [tameTo, List.range_succ]
theorem tameTo_b (C : CaseD) (t b : Nat) : tameTo C t (b + 1) = ⟨(tameTo C t b).ws, (tameTo C t b).ts ++ [bitRow (tameN C) b], (tameTo C t b).cs ++ [1 + modI (C.cs.getD b 0) 100]⟩ := by
  simp [tameTo, List.range_succ]

/-- A row of n numbers, filled up to i. -/
def fillTo (f : Nat → Int) (n i : Nat) : List Int := (List.range i).map f ++ List.replicate (n - i) 0
theorem fillTo_len (f : Nat → Int) (n i : Nat) (h : i ≤ n) : (fillTo f n i).length = n := by simp [fillTo]; omega
theorem fillTo_set (f : Nat → Int) (n i : Nat) (h : i < n) : (intVals (fillTo f n i)).set i (.int .i64 (f i)) = intVals (fillTo f n (i + 1)) := by
  unfold intVals fillTo
  obtain ⟨m, hm⟩ : ∃ m, n - i = m + 1 := ⟨n - i - 1, by omega⟩
  have hm' : n - (i + 1) = m := by omega
  rw [hm, hm', List.map_append, List.set_append_right _ _ (by simp), List.range_succ]
  simp [List.replicate_succ]
theorem fillTo_all (f : Nat → Int) (n : Nat) : fillTo f n n = (List.range n).map f := by simp [fillTo]

theorem made_fill (f : Nat → Int) (n : Nat) : (madeCells #[.int .i64 0] n).toList = intVals (fillTo f n 0) := by
  rw [toList_madeCells_one]
  simp [intVals, fillTo]

/-- A row that is being filled. -/
structure Fill (w0 w : World) (f : Nat → Int) (n i : Nat) : Prop where
  ext : Ext w0 w
  own : w.ownsRow w0.heap.size 3 1 (.slice (some ⟨w0.heap.size, 0, none⟩) n n) n (intVals (fillTo f n i))
theorem Fill.start (w0 : World) (f : Nat → Int) (n : Nat) (hn : n ≤ 10) : Fill w0 (w0.alloc (.cells (madeCells #[.int .i64 0] n) 3)) f n 0 := by
  refine ⟨Ext.alloc _ _, ?_⟩
  rw [← made_fill f n]
  exact World.ownsRow_lit w0 (e := 3) (size := 1) (madeCells #[.int .i64 0] n) n (Nat.le_refl _) (by unfold maxLen; omega) (by rw [size_madeCells]; omega)
theorem Fill.set {w0 w : World} {f : Nat → Int} {n i : Nat} (h : Fill w0 w f n i) (hi : i < n) : Fill w0 (w.setCell ⟨w0.heap.size, i, none⟩ (.int .i64 (f i))) f n (i + 1) := by
  obtain ⟨h1, h2⟩ := h.own.stored i (.int .i64 (f i))
  rw [fillTo_set f n i hi] at h1
  exact ⟨h.ext.grown h2 h.ext.size (fun k hk => by cases hk; exact Nat.le_refl _), h1⟩
theorem Fill.more {w0 w w' : World} {f : Nat → Int} {n i : Nat} (h : Fill w0 w f n i) (hx : Ext w w') : Fill w0 w' f n i := ⟨h.ext.trans hx, own_ext h.own hx⟩
theorem Fill.cell {w0 w : World} {f : Nat → Int} {n i : Nat} (h : Fill w0 w f n i) (hin : i ≤ n) {j : Nat} (hj : j < n) : ∃ v, w.cell? ⟨w0.heap.size, j, none⟩ = some v := by
  obtain ⟨_, _, hc⟩ := cells_of_own' h.own
  have hl : (intVals (fillTo f n i)).length = n := by simp [intVals, fillTo_len f n i hin]
  obtain ⟨b, o, he, hcc⟩ := hc j _ (List.getElem?_eq_getElem (by omega))
  cases he
  exact ⟨_, by simpa using hcc⟩
theorem Fill.free {w0 w : World} {f : Nat → Int} {n i : Nat} (h : Fill w0 w f n i) (j : Nat) : w.frozen? ⟨w0.heap.size, j, none⟩ = false := h.own.frozenAt j
theorem Fill.row {w0 w : World} {f : Nat → Int} {n : Nat} (h : Fill w0 w f n n) : IntsAt w (some ⟨w0.heap.size, 0, none⟩) ((List.range n).map f) := by
  have := (cells_of_own' h.own).2.2
  rw [fillTo_all] at this
  exact this

/-- A box of three slices holds no number. -/
theorem IntsAt.set3 {w : World} {a : Option Addr} {xs : List Int} {b o : Nat} {a0 a1 a2 : Option Addr} {n0 k0 n1 k1 n2 k2 : Nat} {t : TypeId} {fr : Nat × Nat} {v : Value} (h : IntsAt w a xs)
    (hb : w.heap[b]? = some (.cells #[.slice a0 n0 k0, .slice a1 n1 k1, .slice a2 n2 k2] t fr)) : IntsAt (w.setCell ⟨b, o, none⟩ v) a xs := by
  intro i u hu
  obtain ⟨b', off, ha, hc⟩ := h i u hu
  refine ⟨b', off, ha, ?_⟩
  rw [List.getElem?_map] at hu
  obtain ⟨y, _, rfl⟩ := Option.map_eq_some_iff.1 hu
  have hne : b' ≠ b := by
    rintro rfl
    rw [cell_heap hb] at hc
    match hj : off + i, hc with
    | 0, hc => simp at hc
    | 1, hc => simp at hc
    | 2, hc => simp at hc
    | j + 3, hc => simp at hc
  rw [World.cell?_of_block (heap_setCell_other w ⟨b, o, none⟩ b' v hne)]
  exact hc

theorem OC.base {w : World} {B B' : Nat} {C : CaseD} {aw at_ ac : Option Addr} {kw kt kc : Nat} {rv : List Value} (h : OC w B C aw at_ ac kw kt kc rv) (hb : B' ≤ B) : OC w B' C aw at_ ac kw kt kc rv :=
  ⟨own_base h.ow hb, own_base h.ot hb, own_base h.oc hb, h.rows, h.sep⟩

theorem OC.box {w : World} {B : Nat} {C : CaseD} {aw at_ ac : Option Addr} {kw kt kc : Nat} {rv : List Value} {b o : Nat} {a0 a1 a2 : Option Addr} {n0 k0 n1 k1 n2 k2 : Nat} {t : TypeId} {fr : Nat × Nat} {v : Value} (h : OC w B C aw at_ ac kw kt kc rv) (hlt : b < B)
    (hb : w.heap[b]? = some (.cells #[.slice a0 n0 k0, .slice a1 n1 k1, .slice a2 n2 k2] t fr)) : OC (w.setCell ⟨b, o, none⟩ v) B C aw at_ ac kw kt kc rv := by
  refine ⟨ownsRow_setCell_below h.ow hlt v, ownsRow_setCell_below h.ot hlt v, ownsRow_setCell_below h.oc hlt v, fun i xs hx => ?_, h.sep⟩
  obtain ⟨a, k, h1, h2, h3, h4⟩ := h.rows i xs hx
  exact ⟨a, k, h1, h2, h3.set3 hb, by simpa using h4⟩
theorem OC.box3 {w : World} {B : Nat} {C : CaseD} {aw at_ ac : Option Addr} {kw kt kc : Nat} {rv : List Value} {b : Nat} {a0 a1 a2 c0 c1 c2 : Option Addr} {n0 k0 n1 k1 n2 k2 m0 l0 m1 l1 m2 l2 : Nat} {t : TypeId} {fr : Nat × Nat} (h : OC w B C aw at_ ac kw kt kc rv) (hlt : b < B)
    (hb : w.heap[b]? = some (.cells #[.slice a0 n0 k0, .slice a1 n1 k1, .slice a2 n2 k2] t fr)) :
    OC (((w.setCell ⟨b, 0, none⟩ (.slice c0 m0 l0)).setCell ⟨b, 1, none⟩ (.slice c1 m1 l1)).setCell ⟨b, 2, none⟩ (.slice c2 m2 l2)) B C aw at_ ac kw kt kc rv ∧
      (((w.setCell ⟨b, 0, none⟩ (.slice c0 m0 l0)).setCell ⟨b, 1, none⟩ (.slice c1 m1 l1)).setCell ⟨b, 2, none⟩ (.slice c2 m2 l2)).heap[b]? = some (.cells #[.slice c0 m0 l0, .slice c1 m1 l1, .slice c2 m2 l2] t fr) := by
  have h1 := heap_set_same' (o := 0) (u := .slice c0 m0 l0) hb
  have h2 := heap_set_same' (o := 1) (u := .slice c1 m1 l1) h1
  have h3 := heap_set_same' (o := 2) (u := .slice c2 m2 l2) h2
  exact ⟨((h.box hlt hb).box hlt h1).box hlt h2, h3⟩

theorem OExt.below {w w' : World} {r1 r2 : Option Nat} {B : Nat} (h : OExt w w' r1 r2) (h1 : ∀ k, r1 = some k → B ≤ k) (h2 : ∀ k, r2 = some k → B ≤ k) (hB : B ≤ w.heap.size) : Below B w w' :=
  ⟨h.os, h.tape, h.output, h.size, fun k hk => h.block k (by omega) (fun e => by have := h1 k e.symm; omega) (fun e => by have := h2 k e.symm; omega)⟩
theorem below_heap {w w' : World} {B b : Nat} {o : Obj} (h : Below B w w') (hb : b < B) (ho : w.heap[b]? = some o) : w'.heap[b]? = some o := (h.block b hb).trans ho
theorem Ext.below {w0 w w' : World} {B : Nat} (h : Ext w0 w) (hb : Below B w w') (hB : w0.heap.size ≤ B) : Ext w0 w' := Below.trans h (hb.mono hB)

theorem OC.withC {w : World} {B : Nat} {C : CaseD} {aw at_ ac ra : Option Addr} {kw kt kc rk nw nt nc rn : Nat} {rv : List Value} {xs : List Int} {x : Int} (h : OC w B C aw at_ ac kw kt kc rv)
    (hr : RowOff w ra xs (Value.slice at_ C.ts.length kt).ownBlock (Value.slice ac C.cs.length kc).ownBlock) (hrk : xs.length ≤ rk) (hB : B ≤ w.heap.size) (hnw : nw = C.ws.length) (hnt : nt = C.ts.length) (hnc : nc = C.cs.length) (hrn : rn = xs.length)
    (h1 : nt ≤ 1000) (h2 : nc ≤ 1000) :
    Calls Tryd.prog 27 #[.agg #[.slice aw nw kw, .slice at_ nt kt, .slice ac nc kc], .slice ra rn rk, .int .i64 x] w fun e w' => ∃ gt gc kt' kc' rv',
      e = .returned (.agg #[.slice aw nw kw, .slice (some ⟨gt, 0, none⟩) (nt + 1) kt', .slice (some ⟨gc, 0, none⟩) (nc + 1) kc']) ∧
      OC w' B ⟨C.ws, C.ts ++ [xs], C.cs ++ [x]⟩ aw (some ⟨gt, 0, none⟩) (some ⟨gc, 0, none⟩) kw kt' kc' rv' ∧ Below B w w' := by
  subst hnw hnt hnc hrn
  refine (with_any B aw at_ ac ra C.ws.length kw kt kc xs.length rk C.ts.length C.cs.length rv C.cs x w h.ot h.oc hB h1 h2).mono ?_
  rintro e w' ⟨gt, gc, kt', kc', rfl, ht, hc, ho, hgt, hgc⟩
  exact ⟨gt, gc, kt', kc', _, rfl, h.with hr hrk ht hc ho hgt hgc, ho.below (fun k hk => (h.ot.lt k hk).1) (fun k hk => (h.oc.lt k hk).1) hB⟩

theorem tameTo_len (C : CaseD) (t b : Nat) : (tameTo C t b).ws.length = tameN C ∧ (tameTo C t b).ts.length = t + b ∧ (tameTo C t b).cs.length = t + b := by simp [tameTo]
end Go.Proofs.YtdbendnfgkonbaaDoor
