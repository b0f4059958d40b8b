/- A case of some tests of a case: TestsCovers' inner case, as data and in memory. -/
import Derived.Test.YtdbendnfgkonbaaDoorMathE
namespace Go.Proofs.YtdbendnfgkonbaaDoor
open Go.RowKit
set_option linter.unusedVariables false
set_option linter.unusedSimpArgs false

def subC (D : CaseD) (l : List Nat) : CaseD := ⟨D.ws, l.map fun j => D.ts.getD j [], l.map fun _ => 1⟩
def pick (L : List Nat) (k i : Nat) : List Nat := (L.take i).eraseIdx k
theorem pick_start (L : List Nat) (k : Nat) : pick L k 0 = [] := by simp [pick]
theorem pick_skip (L : List Nat) (k : Nat) (hk : k < L.length) : pick L k (k + 1) = pick L k k := by
  unfold pick
  rw [List.take_succ_eq_append_getElem hk, List.eraseIdx_append_of_length_le (by rw [List.length_take]; omega), List.eraseIdx_of_length_le (l := L.take k) (by rw [List.length_take]; omega)]
  have : k - (L.take k).length = 0 := by rw [List.length_take]; omega
  rw [this]
  simp
theorem pick_take (L : List Nat) (k i x : Nat) (hx : L[i]? = some x) (hne : i ≠ k) : pick L k (i + 1) = pick L k i ++ [x] := by
  obtain ⟨hi, rfl⟩ := List.getElem?_eq_some_iff.1 hx
  unfold pick
  rw [List.take_succ_eq_append_getElem hi]
  rcases Nat.lt_or_gt_of_ne hne with h | h
  · rw [List.eraseIdx_of_length_le (by rw [List.length_append, List.length_take]; simp; omega), List.eraseIdx_of_length_le (by rw [List.length_take]; omega)]
  · rw [List.eraseIdx_append_of_lt_length (by rw [List.length_take]; omega)]
theorem pick_all (L : List Nat) (k : Nat) : pick L k L.length = L.eraseIdx k := by simp [pick]
theorem pick_len (L : List Nat) (k i : Nat) : (pick L k i).length ≤ L.length := by
  unfold pick
  refine Nat.le_trans (List.length_eraseIdx_le _ _) ?_
  rw [List.length_take]
  omega

theorem subC_ok {D : CaseD} (hok : caseOk D = true) (l : List Nat) (hl : ∀ x ∈ l, x < D.ts.length) (hlen : l.length ≤ 12) : caseOk (subC D l) = true := by
  have h0 := hok
  simp only [caseOk, Bool.and_eq_true, decide_eq_true_eq] at h0
  obtain ⟨⟨⟨⟨⟨h1, h2⟩, h3⟩, h4⟩, h5⟩, h6⟩ := h0
  have hts : (subC D l).ts.all (rowOk D.ws.length) = true := by
    rw [List.all_eq_true] at h6 ⊢
    intro r hr
    obtain ⟨j, hj, rfl⟩ := List.mem_map.1 hr
    have := hl j hj
    refine h6 _ ?_
    rw [List.getD_eq_getElem?_getD, List.getElem?_eq_getElem this]
    exact List.getElem_mem this
  have hcs : badCs (subC D l).cs = false := by
    unfold badCs
    rw [List.any_eq_false]
    intro x hx
    obtain ⟨j, _, rfl⟩ := List.mem_map.1 hx
    decide
  have e1 : (subC D l).ts.length = l.length := by simp [subC]
  have e2 : (subC D l).cs.length = l.length := by simp [subC]
  unfold caseOk
  rw [e1, e2, hcs]
  show (inR D.ws.length 1 10 && decide (l.length ≤ 12) && decide (l.length = l.length) && !badWs D.ws && !false && (subC D l).ts.all (rowOk D.ws.length)) = true
  rw [h1, hts, h4]
  simpa using hlen

theorem mask_nil : mask [] = 0 := rfl
theorem subC_ones (D : CaseD) (l : List Nat) : (subC D l).ts.map mask = l.map fun k => (D.ts.map mask).getD k 0 := by
  unfold subC
  rw [List.map_map]
  refine List.map_congr_left fun j _ => ?_
  show mask (D.ts.getD j []) = (D.ts.map mask).getD j 0
  rw [List.getD_eq_getElem?_getD, List.getD_eq_getElem?_getD, List.getElem?_map]
  cases D.ts[j]? <;> rfl
theorem subC_alike (D : CaseD) (l : List Nat) : alikeL ((subC D l).ts.map mask) (subC D l).ws.length = [] ↔ dividesB (D.ts.map mask) l D.ws.length = true := by
  rw [subC_ones]
  exact sub_alike _ _ _

/-- What TestsCovers asks. -/
theorem covers_law {D : CaseD} (hal : alikeL (D.ts.map mask) D.ws.length = []) (L : List Nat) (hL : coverL (D.ts.map mask) D.ws.length D.ts.length = L) (k : Nat) (hk : k ≤ L.length) :
    (alikeL ((subC D (pick L k L.length)).ts.map mask) D.ws.length).length = 0 ↔ k = L.length := by
  have e : D.ts.length = (D.ts.map mask).length := by simp
  rw [List.length_eq_zero_iff, pick_all]
  have h2 := subC_alike D (L.eraseIdx k)
  have h3 : (subC D (L.eraseIdx k)).ws.length = D.ws.length := rfl
  rw [h3] at h2
  rw [h2]
  constructor
  · intro h
    refine Classical.byContradiction fun hne => ?_
    rw [e] at hL
    have := coverL_tight hal k (by rw [hL]; omega)
    rw [hL, h] at this
    cases this
  · intro h
    rw [List.eraseIdx_of_length_le (by omega), ← hL, e]
    exact (coverL_spec hal).1
theorem cover_lt {D : CaseD} (hal : alikeL (D.ts.map mask) D.ws.length = []) : ∀ x ∈ coverL (D.ts.map mask) D.ws.length D.ts.length, x < D.ts.length := by
  have e : D.ts.length = (D.ts.map mask).length := by simp
  intro x hx
  rw [e] at hx ⊢
  exact coverL_lt hal x hx
theorem cover_len {D : CaseD} (hal : alikeL (D.ts.map mask) D.ws.length = []) : (coverL (D.ts.map mask) D.ws.length D.ts.length).length ≤ D.ts.length := by
  have e : D.ts.length = (D.ts.map mask).length := by simp
  obtain ⟨s, hs⟩ := (coverL_spec hal).2.1
  rw [e, hs]
  exact bitsTo_len s _
theorem pick_lt {L : List Nat} {T : Nat} (h : ∀ x ∈ L, x < T) (k i : Nat) : ∀ x ∈ pick L k i, x < T := fun x hx => h x (List.mem_of_mem_take (List.mem_of_mem_eraseIdx hx))

theorem OC.getRow {w : World} {B : Nat} {C : CaseD} {aw at_ ac : Option Addr} {kw kt kc : Nat} {rv : List Value} (h : OC w B C aw at_ ac kw kt kc rv) {i : Nat} (hi : i < C.ts.length) :
    ∃ b off a k xs, at_ = some ⟨b, off, none⟩ ∧ w.cell? ⟨b, off + i, none⟩ = some (.slice a xs.length k) ∧ xs.length ≤ k ∧ IntsAt w a xs ∧ (∀ b o, a = some ⟨b, o, none⟩ → b < w.heap.size) ∧ Hid (C.ts.getD i [] = xs) := by
  obtain ⟨a, k, h1, h2, h3, h4⟩ := h.rows i C.ts[i] (List.getElem?_eq_getElem hi)
  obtain ⟨_, _, hc⟩ := cells_of_own' h.ot
  obtain ⟨b, off, hb, hcell⟩ := hc i _ h1
  exact ⟨b, off, a, k, C.ts[i], hb, hcell, h2, h3, fun b o hb => (h4 b o hb).1, Lib.hid (by simp [List.getD, hi])⟩

/-- with on a case whose lists lie above B2. -/
theorem OC.withD {w : World} {B B2 : Nat} {C : CaseD} {aw at_ ac ra : Option Addr} {kw kt kc rk nw nt nc rn : Nat} {rv : List Value} {xs : List Int} {x : Int} (h : OC w B C aw at_ ac kw kt kc rv)
    (hr : RowOff w ra xs (Value.slice at_ C.ts.length kt).ownBlock (Value.slice ac C.cs.length kc).ownBlock) (hrk : xs.length ≤ rk) (hB : B ≤ w.heap.size) (hB2 : B2 ≤ w.heap.size)
    (hat : ∀ g, (Value.slice at_ C.ts.length kt).ownBlock = some g → B2 ≤ g) (hac : ∀ g, (Value.slice ac C.cs.length kc).ownBlock = some g → B2 ≤ g)
    (hnw : nw = C.ws.length) (hnt : nt = C.ts.length) (hnc : nc = C.cs.length) (hrn : rn = xs.length) (h1 : nt ≤ 1000) (h2 : nc ≤ 1000) :
    Calls Tryd.prog 27 #[.agg #[.slice aw nw kw, .slice at_ nt kt, .slice ac nc kc], .slice ra rn rk, .int .i64 x] w fun e w' => ∃ gt gc kt' kc' rv',
      e = .returned (.agg #[.slice aw nw kw, .slice (some ⟨gt, 0, none⟩) (nt + 1) kt', .slice (some ⟨gc, 0, none⟩) (nc + 1) kc']) ∧
      OC w' B ⟨C.ws, C.ts ++ [xs], C.cs ++ [x]⟩ aw (some ⟨gt, 0, none⟩) (some ⟨gc, 0, none⟩) kw kt' kc' rv' ∧ B2 ≤ gt ∧ B2 ≤ gc ∧ Below B2 w w' := by
  subst hnw hnt hnc hrn
  refine (with_any B aw at_ ac ra C.ws.length kw kt kc xs.length rk C.ts.length C.cs.length rv C.cs x w h.ot h.oc hB h1 h2).mono ?_
  rintro e w' ⟨gt, gc, kt', kc', rfl, ht, hc, ho, hgt, hgc⟩
  refine ⟨gt, gc, kt', kc', _, rfl, h.with hr hrk ht hc ho hgt hgc, ?_, ?_, ho.below hat hac hB2⟩
  · rcases hgt with hg | hg
    · exact hat _ hg
    · omega
  · rcases hgc with hg | hg
    · exact hac _ hg
    · omega

/-- A store into a box of another type leaves the case alone. -/
theorem OC.boxT {w : World} {B : Nat} {C : CaseD} {aw at_ ac : Option Addr} {kw kt kc : Nat} {rv : List Value} {b o : Nat} {a0 a1 a2 : Option Addr} {n0 k0 n1 k1 n2 k2 : Nat} {fr : Nat × Nat} {v : Value} (h : OC w B C aw at_ ac kw kt kc rv)
    (hb : w.heap[b]? = some (.cells #[.slice a0 n0 k0, .slice a1 n1 k1, .slice a2 n2 k2] 25 fr)) : OC (w.setCell ⟨b, o, none⟩ v) B C aw at_ ac kw kt kc rv := by
  refine ⟨ownsRow_setCell_other h.ow (own_ne_heap h.ow hb (by decide)) v, ownsRow_setCell_other h.ot (own_ne_heap h.ot hb (by decide)) v, ownsRow_setCell_other h.oc (own_ne_heap h.oc hb (by decide)) v, fun i xs hx => ?_, h.sep⟩
  obtain ⟨a, k, h1, h2, h3, h4⟩ := h.rows i xs hx
  exact ⟨a, k, h1, h2, h3.set3 hb, by simpa using h4⟩
theorem OC.boxT3 {w : World} {B : Nat} {C : CaseD} {aw at_ ac : Option Addr} {kw kt kc : Nat} {rv : List Value} {b : Nat} {a0 a1 a2 c0 c1 c2 : Option Addr} {n0 k0 n1 k1 n2 k2 m0 l0 m1 l1 m2 l2 : Nat} {fr : Nat × Nat} (h : OC w B C aw at_ ac kw kt kc rv)
    (hb : w.heap[b]? = some (.cells #[.slice a0 n0 k0, .slice a1 n1 k1, .slice a2 n2 k2] 25 fr)) :
    OC (((w.setCell ⟨b, 0, none⟩ (.slice c0 m0 l0)).setCell ⟨b, 1, none⟩ (.slice c1 m1 l1)).setCell ⟨b, 2, none⟩ (.slice c2 m2 l2)) B C aw at_ ac kw kt kc rv ∧
      (((w.setCell ⟨b, 0, none⟩ (.slice c0 m0 l0)).setCell ⟨b, 1, none⟩ (.slice c1 m1 l1)).setCell ⟨b, 2, none⟩ (.slice c2 m2 l2)).heap[b]? = some (.cells #[.slice c0 m0 l0, .slice c1 m1 l1, .slice c2 m2 l2] 25 fr) := by
  have h1 := heap_set_same' (o := 0) (u := .slice c0 m0 l0) hb
  have h2 := heap_set_same' (o := 1) (u := .slice c1 m1 l1) h1
  have h3 := heap_set_same' (o := 2) (u := .slice c2 m2 l2) h2
  exact ⟨((h.boxT hb).boxT h1).boxT h2, h3⟩
end Go.Proofs.YtdbendnfgkonbaaDoor
