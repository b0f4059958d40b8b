/- Contract: own, the copy of a case that came in. -/
import Derived.Test.YtdbendnfgkonbaaDoorLists
namespace Go.Proofs.YtdbendnfgkonbaaDoor
open Go.RowKit
set_option linter.unusedVariables false
set_option linter.unusedSimpArgs false

/-- A case in memory, whole: nil lists have capacity 0. -/
structure CaseF (w : World) (C : CaseD) (aw at_ ac : Option Addr) (kw kt kc : Nat) : Prop where
  ws : IntsAt w aw C.ws
  lw : C.ws.length ≤ kw
  nw : aw = none → kw = 0
  cs : IntsAt w ac C.cs
  lc : C.cs.length ≤ kc
  nc : ac = none → kc = 0
  lt : C.ts.length ≤ kt
  rows : ∀ (i : Nat) (xs : List Int), C.ts[i]? = some xs → ∃ b off a k, at_ = some ⟨b, off, none⟩ ∧ w.cell? ⟨b, off + i, none⟩ = some (.slice a xs.length k) ∧ xs.length ≤ k ∧ IntsAt w a xs ∧ (a = none → k = 0)
def CaseV (w : World) (v : Value) (C : CaseD) : Prop := ∃ aw at_ ac kw kt kc, v = .agg #[.slice aw C.ws.length kw, .slice at_ C.ts.length kt, .slice ac C.cs.length kc] ∧ CaseF w C aw at_ ac kw kt kc

theorem CaseF.case {w : World} {C : CaseD} {aw at_ ac : Option Addr} {kw kt kc : Nat} (h : CaseF w C aw at_ ac kw kt kc) : CaseAt w (.agg #[.slice aw C.ws.length kw, .slice at_ C.ts.length kt, .slice ac C.cs.length kc]) C :=
  ⟨aw, kw, at_, kt, ac, kc, rfl, h.lw, h.lt, h.lc, h.ws, fun i xs hx => by obtain ⟨b, off, a, k, h1, h2, h3, h4, _⟩ := h.rows i xs hx; exact ⟨b, off, a, k, h1, h2, h3, h4⟩, h.cs⟩
theorem CaseF.ext {w w' : World} {C : CaseD} {aw at_ ac : Option Addr} {kw kt kc : Nat} (h : CaseF w C aw at_ ac kw kt kc) (hb : Ext w w') : CaseF w' C aw at_ ac kw kt kc :=
  ⟨h.ws.ext hb, h.lw, h.nw, h.cs.ext hb, h.lc, h.nc, h.lt, fun i xs hx => by obtain ⟨b, off, a, k, h1, h2, h3, h4, h5⟩ := h.rows i xs hx; exact ⟨b, off, a, k, h1, cell_later hb h2, h3, h4.ext hb, h5⟩⟩
theorem CaseF.get {w : World} {C : CaseD} {aw at_ ac : Option Addr} {kw kt kc : Nat} (h : CaseF w C aw at_ ac kw kt kc) {i : Nat} (hi : i < C.ts.length) :
    ∃ b off a k xs, at_ = some ⟨b, off, none⟩ ∧ w.cell? ⟨b, off + i, none⟩ = some (.slice a xs.length k) ∧ xs.length ≤ k ∧ IntsAt w a xs ∧ (a = none → k = 0) ∧ Hid (C.ts[i]? = some xs) := by
  obtain ⟨b, off, a, k, h1, h2, h3, h4, h5⟩ := h.rows i C.ts[i] (List.getElem?_eq_getElem hi)
  exact ⟨b, off, a, k, C.ts[i], h1, h2, h3, h4, h5, Lib.hid (List.getElem?_eq_getElem hi)⟩

theorem own_nil {w : World} {B : Nat} {e : TypeId} {size n m k : Nat} {cs : List Value} (h : w.ownsRow B e size (.slice none m k) n cs) : k = 0 := by
  rcases h.2 with ⟨hv, _⟩ | ⟨g, cap, cur, hv, _⟩
  · cases hv; rfl
  · cases hv
/-- A good case that the statement made is whole. -/
theorem OC.whole {w : World} {B : Nat} {C : CaseD} {aw at_ ac : Option Addr} {kw kt kc : Nat} {rv : List Value} (h : OC w B C aw at_ ac kw kt kc rv) (hok : caseOk C = true) : CaseF w C aw at_ ac kw kt kc := by
  obtain ⟨_, w1, w2⟩ := cells_of_own' h.ow
  obtain ⟨_, t1, t2⟩ := cells_of_own' h.ot
  obtain ⟨_, c1, c2⟩ := cells_of_own' h.oc
  have hn := caseOk_n hok
  refine ⟨w2, w1, fun e => ?_, c2, c1, fun e => ?_, t1, fun i xs hx => ?_⟩
  · subst e; exact own_nil h.ow
  · subst e; exact own_nil h.oc
  · obtain ⟨a, k, r1, r2, r3⟩ := h.rows i xs hx
    obtain ⟨b, off, e1, e2⟩ := t2 i _ r1
    refine ⟨b, off, a, k, e1, e2, r2, r3.1, fun e => ?_⟩
    subst e
    have := ints_none r3.1
    have h2 := caseOk_row hok (List.mem_of_getElem? hx)
    rw [this] at h2
    simp at h2
    omega

def ownD (C : CaseD) : CaseD := ⟨C.ws.take 14, (C.ts.take 14).map fun r => r.take 14, C.cs.take 14⟩
theorem ownD_ok {C : CaseD} (hok : caseOk C = true) : ownD C = C := by
  have h1 := caseOk_n hok
  have h2 := caseOk_ts hok
  have h3 := caseOk_cs hok
  obtain ⟨ws, ts, cs⟩ := C
  dsimp only at h1 h2 h3
  unfold ownD
  dsimp only
  rw [List.take_of_length_le (by omega), List.take_of_length_le (by omega), List.take_of_length_le (by omega)]
  congr 1
  have : ∀ r ∈ ts, r.take 14 = r := fun r hr => by
    have := (caseOk_row hok hr).1
    dsimp only at this
    exact List.take_of_length_le (by omega)
  rw [List.map_congr_left this, List.map_id']

theorem cell_set3 {w : World} {b c o : Nat} {v u0 u1 u2 : Value} (h : w.cell? ⟨b, o, none⟩ = some v) (hne : b ≠ c) : (((w.setCell ⟨c, 0, none⟩ u0).setCell ⟨c, 1, none⟩ u1).setCell ⟨c, 2, none⟩ u2).cell? ⟨b, o, none⟩ = some v := by
  have e : ∀ (w : World) (o : Nat) (u : Value), (w.setCell ⟨c, o, none⟩ u).heap[b]? = w.heap[b]? := fun w o u => heap_setCell_other w ⟨c, o, none⟩ b u hne
  rw [World.cell?_of_block (e _ 2 u2), World.cell?_of_block (e _ 1 u1), World.cell?_of_block (e _ 0 u0)]
  exact h

/-- A row is appended to the tests. -/
theorem OC.addRow {w w' : World} {B : Nat} {C : CaseD} {aw at_ ac ra : Option Addr} {kw kt kc rk gt kt' : Nat} {rv : List Value} {xs : List Int} (h : OC w B C aw at_ ac kw kt kc rv)
    (hr : RowOff w ra xs (Value.slice at_ C.ts.length kt).ownBlock (Value.slice ac C.cs.length kc).ownBlock) (hrk : xs.length ≤ rk)
    (ht : w'.ownsRow B 22 1 (.slice (some ⟨gt, 0, none⟩) (C.ts.length + 1) kt') (C.ts.length + 1) (rv ++ [.slice ra xs.length rk]))
    (ho : OExt w w' (Value.slice at_ C.ts.length kt).ownBlock none) (hgt : (Value.slice at_ C.ts.length kt).ownBlock = some gt ∨ w.heap.size ≤ gt) :
    OC w' B ⟨C.ws, C.ts ++ [xs], C.cs⟩ aw (some ⟨gt, 0, none⟩) ac kw kt' kc (rv ++ [.slice ra xs.length rk]) := by
  have e1 : (C.ts ++ [xs]).length = C.ts.length + 1 := by simp
  have hrow : ∀ a ys, RowOff w a ys (Value.slice at_ C.ts.length kt).ownBlock (Value.slice ac C.cs.length kc).ownBlock → RowOff w' a ys (some gt) (Value.slice ac C.cs.length kc).ownBlock := by
    intro a ys hy
    refine ⟨CellsAt.off hy.1 ho fun b o ha => ⟨(hy.2 b o ha).2.1, by simp⟩, fun b o ha => ?_⟩
    obtain ⟨h1, h2, h3⟩ := hy.2 b o ha
    refine ⟨Nat.lt_of_lt_of_le h1 ho.size, fun e => ?_, h3⟩
    rcases hgt with hg | hg
    · exact h2 (by rw [hg]; exact e)
    · cases e; omega
  refine ⟨?_, ?_, ?_, ?_, h.sep⟩
  · exact own_off h.ow ho fun g hg => ⟨fun e => own_types h.ot h.ow (by decide) e.symm hg, by simp⟩
  · dsimp only; rw [e1]; exact ht
  · exact own_off h.oc ho fun g hg => ⟨fun e => own_types h.ot h.oc (by decide) e.symm hg, by simp⟩
  · dsimp only
    intro i ys hy
    rcases Nat.lt_or_ge i C.ts.length with hi | hi
    · rw [List.getElem?_append_left hi] at hy
      obtain ⟨a, k, h1, h2, h3⟩ := h.rows i ys hy
      have hil : i < rv.length := (List.getElem?_eq_some_iff.1 h1).1
      exact ⟨a, k, by rw [List.getElem?_append_left hil]; exact h1, h2, hrow a ys h3⟩
    · rw [List.getElem?_append_right hi] at hy
      have hlen : rv.length = C.ts.length := by have := h.ot.1; simpa using this
      have hi0 : i - C.ts.length = 0 := by
        rcases Nat.eq_zero_or_pos (i - C.ts.length) with h0 | h0
        · exact h0
        · rw [List.getElem?_eq_none (by simp; omega)] at hy; cases hy
      rw [hi0] at hy
      cases hy
      exact ⟨ra, rk, by rw [List.getElem?_append_right (by omega), hlen, hi0]; rfl, hrk, hrow ra xs hr⟩

theorem own_sep {w1 w2 : World} {B1 B2 : Nat} {e1 e2 : TypeId} {s1 s2 : Nat} {v1 v2 : Value} {n1 n2 : Nat} {c1 c2 : List Value} (h1 : w1.ownsRow B1 e1 s1 v1 n1 c1) (h2 : w2.ownsRow B2 e2 s2 v2 n2 c2) (hB : w1.heap.size ≤ B2) :
    ∀ b, v1.ownBlock = some b → v2.ownBlock ≠ some b := fun b hb hb2 => by
  have a1 := (h1.lt b hb).2
  have a2 := (h2.lt b hb2).1
  omega

/-- Where the copying of the tests begins. -/
structure OwnStart (w wf : World) (bx : Nat) (C : CaseD) (aw at_ ac bA bB : Option Addr) (kw kt kc kA kB nW nC : Nat) : Prop where
  ext : Ext w wf
  b0 : wf.heap[w.heap.size]? = some (.cells #[.slice aw C.ws.length kw, .slice at_ C.ts.length kt, .slice ac C.cs.length kc] 25 (0, 0))
  b1 : wf.heap[w.heap.size + 1]? = some (.cells #[.slice none 0 0, .slice none 0 0, .slice none 0 0] 25 (0, 0))
  box : wf.heap[bx]? = some (.cells #[.slice bA nW kA, .slice none 0 0, .slice bB nC kB] 25 (0, 0))
  hbx : w.heap.size + 1 < bx
  oA : wf.ownsRow w.heap.size 3 1 (.slice bA nW kA) nW (intVals (C.ws.take 14))
  oB : wf.ownsRow w.heap.size 3 1 (.slice bB nC kB) nC (intVals (C.cs.take 14))
  sep : ∀ b, (Value.slice bA nW kA).ownBlock = some b → (Value.slice bB nC kB).ownBlock ≠ some b
theorem OwnStart.set3 {w wB : World} {bx : Nat} {C : CaseD} {aw at_ ac bA bB : Option Addr} {kw kt kc kA kB nW nC : Nat} (hx : Ext w wB)
    (b0 : wB.heap[w.heap.size]? = some (.cells #[.slice aw C.ws.length kw, .slice at_ C.ts.length kt, .slice ac C.cs.length kc] 25 (0, 0)))
    (b1 : wB.heap[w.heap.size + 1]? = some (.cells #[.slice none 0 0, .slice none 0 0, .slice none 0 0] 25 (0, 0)))
    (bb : wB.heap[bx]? = some (.cells #[.slice none 0 0, .slice none 0 0, .slice none 0 0] 25 (0, 0))) (hbx : w.heap.size + 1 < bx)
    (oA : wB.ownsRow w.heap.size 3 1 (.slice bA nW kA) nW (intVals (C.ws.take 14))) (oB : wB.ownsRow w.heap.size 3 1 (.slice bB nC kB) nC (intVals (C.cs.take 14)))
    (sep : ∀ b, (Value.slice bA nW kA).ownBlock = some b → (Value.slice bB nC kB).ownBlock ≠ some b) :
    OwnStart w (((wB.setCell ⟨bx, 0, none⟩ (.slice bA nW kA)).setCell ⟨bx, 1, none⟩ (.slice none 0 0)).setCell ⟨bx, 2, none⟩ (.slice bB nC kB)) bx C aw at_ ac bA bB kw kt kc kA kB nW nC := by
  have h1 := heap_set_same' (o := 0) (u := .slice bA nW kA) bb
  have h2 := heap_set_same' (o := 1) (u := .slice none 0 0) h1
  have h3 := heap_set_same' (o := 2) (u := .slice bB nC kB) h2
  refine ⟨((((OExt.of_ext hx none none).set (by omega)).set (by omega)).set (by omega)).to (Ext.refl w) (fun k h => by cases h) (fun k h => by cases h),
    heap_set_other (heap_set_other (heap_set_other b0 (by simp; omega)) (by simp; omega)) (by simp; omega), heap_set_other (heap_set_other (heap_set_other b1 (by simp; omega)) (by simp; omega)) (by simp; omega), h3, hbx, ?_, ?_, sep⟩
  · exact ownsRow_setCell_other (ownsRow_setCell_other (ownsRow_setCell_other oA (own_ne_heap oA bb (by decide)) _) (own_ne_heap oA bb (by decide)) _) (own_ne_heap oA bb (by decide)) _
  · exact ownsRow_setCell_other (ownsRow_setCell_other (ownsRow_setCell_other oB (own_ne_heap oB bb (by decide)) _) (own_ne_heap oB bb (by decide)) _) (own_ne_heap oB bb (by decide)) _

def rowsTo (C : CaseD) (i : Nat) : List (List Int) := (C.ts.take i).map fun r => r.take 14
theorem rowsTo_len (C : CaseD) (i : Nat) (h : i ≤ C.ts.length) : (rowsTo C i).length = i := by simp [rowsTo]; omega
theorem rowsTo_step (C : CaseD) (i : Nat) (xs : List Int) (h : C.ts[i]? = some xs) : rowsTo C (i + 1) = rowsTo C i ++ [xs.take 14] := (map_take h).symm
def ownTo (C : CaseD) (i : Nat) : CaseD := ⟨C.ws.take 14, rowsTo C i, C.cs.take 14⟩
theorem ownTo_all (C : CaseD) : ownTo C (min C.ts.length 14) = ownD C := by
  unfold ownTo ownD rowsTo
  congr 2
  rw [List.take_eq_take_iff]
  omega

def OwnPost (C : CaseD) (w : World) (e : Ending) (w' : World) : Prop := ∃ aw' at' ac' kw' kt' kc' rv,
      e = .returned (.agg #[.slice aw' (ownD C).ws.length kw', .slice at' (ownD C).ts.length kt', .slice ac' (ownD C).cs.length kc']) ∧ OC w' w.heap.size (ownD C) aw' at' ac' kw' kt' kc' rv ∧ Ext w w'
theorem ownPost_mk {C : CaseD} {w w' : World} {e : Ending} (h : ∃ aw' at' ac' kw' kt' kc' rv,
      e = .returned (.agg #[.slice aw' (ownD C).ws.length kw', .slice at' (ownD C).ts.length kt', .slice ac' (ownD C).cs.length kc']) ∧ OC w' w.heap.size (ownD C) aw' at' ac' kw' kt' kc' rv ∧ Ext w w') : OwnPost C w e w' := h

set_option maxRecDepth 20000 in
set_option maxHeartbeats 4000000 in
theorem own_post (aw at_ ac : Option Addr) (kw kt kc : Nat) (C : CaseD) (w : World) (hC : CaseF w C aw at_ ac kw kt kc) :
    Calls Tryd.prog 10 #[.agg #[.slice aw C.ws.length kw, .slice at_ C.ts.length kt, .slice ac C.cs.length kc]] w (OwnPost C w) := by
  have HC := Lib.hid hC
  clear hC
  obtain ⟨i1, hi1, hz10, hz11, hz12⟩ := info_parts info_ints
  go_enter Tryd.func10, Tryd.ntmps10
  go_wp2_with fail
  have hx2 : Ext w ((w.alloc (.cells #[.slice aw C.ws.length kw, .slice at_ C.ts.length kt, .slice ac C.cs.length kc] 25)).alloc (.cells #[.slice none 0 0, .slice none 0 0, .slice none 0 0] 25)) := (Ext.alloc _ _).trans (Ext.alloc _ _)
  have hb0 := heap_alloc (o' := .cells #[.slice none 0 0, .slice none 0 0, .slice none 0 0] 25) (heap_alloc_new w (.cells #[.slice aw C.ws.length kw, .slice at_ C.ts.length kt, .slice ac C.cs.length kc] 25))
  have hb1 := heap_alloc_new (w.alloc (.cells #[.slice aw C.ws.length kw, .slice at_ C.ts.length kt, .slice ac C.cs.length kc] 25)) (.cells #[.slice none 0 0, .slice none 0 0, .slice none 0 0] 25)
  rw [wsize_alloc] at hb1
  generalize (w.alloc (.cells #[.slice aw C.ws.length kw, .slice at_ C.ts.length kt, .slice ac C.cs.length kc] 25)).alloc (.cells #[.slice none 0 0, .slice none 0 0, .slice none 0 0] 25) = w2 at *
  have HX2 := Lib.hid hx2
  have HB0 := Lib.hid hb0
  have HB1 := Lib.hid hb1
  obtain ⟨t0, t1, t2⟩ := cells3 hb0
  clear hx2 hb0 hb1
  have hs2 := heap_lt HB1.out
  have HLA : Hid (∀ w', Ext w2 w' → Calls Tryd.prog 32 #[.slice aw C.ws.length kw] w' fun e w'' => ∃ a' k', e = .returned (.slice a' (C.ws.take 14).length k') ∧ Hid (w''.ownsRow w'.heap.size 3 1 (.slice a' (C.ws.take 14).length k') (C.ws.take 14).length (intVals (C.ws.take 14))) ∧ Ext w' w'' ∧ Ext w2 w'') := Lib.hid fun w' hx' =>
    (list_slice aw _ kw C.ws w' rfl ((HC.out.ws.ext HX2.out).ext hx') HC.out.lw HC.out.nw).mono fun e w'' ⟨a, k, h1, h2, h3⟩ => ⟨a, k, h1, Lib.hid h2, h3, hx'.trans h3⟩
  have HLC : Hid (∀ w', Ext w2 w' → Calls Tryd.prog 32 #[.slice ac C.cs.length kc] w' fun e w'' => ∃ a' k', e = .returned (.slice a' (C.cs.take 14).length k') ∧ Hid (w''.ownsRow w'.heap.size 3 1 (.slice a' (C.cs.take 14).length k') (C.cs.take 14).length (intVals (C.cs.take 14))) ∧ Ext w' w'' ∧ Ext w2 w'') := Lib.hid fun w' hx' =>
    (list_slice ac _ kc C.cs w' rfl ((HC.out.cs.ext HX2.out).ext hx') HC.out.lc HC.out.nc).mono fun e w'' ⟨a, k, h1, h2, h3⟩ => ⟨a, k, h1, Lib.hid h2, h3, hx'.trans h3⟩
  generalize hnW : (C.ws.take 14).length = nW at *
  generalize hnC : (C.cs.take 14).length = nC at *
  have HNW := Lib.hid hnW
  have HNC := Lib.hid hnC
  clear hnW hnC
  have d0 : w2.drew.cell? ⟨w.heap.size, 0, none⟩ = some (.slice aw C.ws.length kw) := t0
  have d2 : w2.drew.cell? ⟨w.heap.size, 2, none⟩ = some (.slice ac C.cs.length kc) := t2
  have f0 : ∀ o, (w2.alloc o).drew.cell? ⟨w.heap.size, 0, none⟩ = some (.slice aw C.ws.length kw) := fun o => Lib.cell?_alloc_some o t0
  have f2 : ∀ o, (w2.alloc o).drew.cell? ⟨w.heap.size, 2, none⟩ = some (.slice ac C.cs.length kc) := fun o => Lib.cell?_alloc_some o t2
  go_region_held3 (fun w' => w'.cell? ⟨w.heap.size, 0, none⟩ = some (.slice aw C.ws.length kw) ∧ w'.cell? ⟨w.heap.size, 2, none⟩ = some (.slice ac C.cs.length kc))
    (first | with_reducible exact ⟨d0, d2⟩ | with_reducible exact ⟨f0 _, f2 _⟩ | (with_reducible exact ⟨cell_set3 q0 (by omega), cell_set3 q2 (by omega)⟩) | with_reducible exact ⟨Lib.cell?_alloc_some _ d0, Lib.cell?_alloc_some _ d2⟩ | with_reducible exact ⟨q0, q2⟩ | with_reducible exact ⟨p0, p2⟩ | with_reducible exact ⟨t0, t2⟩ | with_reducible exact ⟨Lib.cell?_alloc_some _ q0, Lib.cell?_alloc_some _ q2⟩ | with_reducible exact ⟨Lib.cell?_alloc_some _ p0, Lib.cell?_alloc_some _ p2⟩ | with_reducible exact ⟨Lib.cell?_alloc_some _ t0, Lib.cell?_alloc_some _ t2⟩)
    (first
      | (go_at_call 32; (with_reducible refine (HLA.out _ (by first | with_reducible exact Ext.drew _ | with_reducible exact (Ext.alloc _ _).trans (Ext.drew _) | with_reducible exact hB | with_reducible exact (Ext.drew _).trans (Ext.alloc _ _) | with_reducible exact hB.trans (Ext.alloc _ _))).mono ?_); rintro e wA ⟨bA, kA, rfl, hownA, hAA, hA⟩; have p0 := cell_later hA t0; have p2 := cell_later hA t2; obtain ⟨ra, fa⟩ := hAA.rules; have za := hAA.size; try simp at za; try (have zz : w2.heap.size < wA.heap.size := by omega))
      | (go_at_call 32; (with_reducible refine (HLC.out _ (by first | with_reducible exact Ext.drew _ | with_reducible exact (Ext.alloc _ _).trans (Ext.drew _) | with_reducible exact hA | with_reducible exact (Ext.drew _).trans (Ext.alloc _ _) | with_reducible exact hA.trans (Ext.alloc _ _))).mono ?_); rintro e wB ⟨bB, kB, rfl, hownB, hBB, hB⟩; have q0 := cell_later hB t0; have q2 := cell_later hB t2; obtain ⟨rb, fb⟩ := hBB.rules; have zb := hBB.size; try simp at zb))
  all_goals
    first
    | ((with_reducible show Exit.then _ _ Exit.normal _ (wB.alloc _)); have hst : OwnStart w (wB.alloc (.cells #[.slice bA nW kA, .slice none 0 0, .slice bB nC kB] 25)) wB.heap.size C aw at_ ac bA bB kw kt kc kA kB nW nC := ⟨(HX2.out.trans hB).trans (Ext.alloc _ _), heap_alloc (heap_ext HB0.out hB), heap_alloc (heap_ext HB1.out hB), heap_alloc_new _ _, by have := hB.size; omega, (own_base (own_ext hownA.out hBB) (show w.heap.size ≤ w2.heap.size by omega)).alloc _, (own_base hownB.out (by omega)).alloc _, own_sep hownA.out hownB.out (Nat.le_refl _)⟩; generalize wB.alloc (.cells #[.slice bA nW kA, .slice none 0 0, .slice bB nC kB] 25) = wf at hst ⊢; generalize wB.heap.size = bx at hst ⊢)
    | (have hst := OwnStart.set3 (w := w) (wB := wB) (bx := wA.heap.size) (C := C) (aw := aw) (at_ := at_) (ac := ac) (bA := bA) (bB := bB) (kw := kw) (kt := kt) (kc := kc) (kA := kA) (kB := kB) (nW := nW) (nC := nC) (HX2.out.trans hB) (heap_ext HB0.out hB) (heap_ext HB1.out hB) (heap_ext (heap_alloc_new wA _) hBB) (by have := hA.size; omega) (own_base (own_ext (hownA.out.alloc _) hBB) (show w.heap.size ≤ w2.heap.size by omega)) (own_base hownB.out (by have := hA.size; simp; omega)) (own_sep hownA.out hownB.out (by simp)); generalize ((wB.setCell ⟨wA.heap.size, 0, none⟩ (.slice bA nW kA)).setCell ⟨wA.heap.size, 1, none⟩ (.slice none 0 0)).setCell ⟨wA.heap.size, 2, none⟩ (.slice bB nC kB) = wf at hst ⊢; generalize wA.heap.size = bx at hst ⊢)
    | (have hst := OwnStart.set3 (w := w) (wB := wB) (bx := w2.heap.size) (C := C) (aw := aw) (at_ := at_) (ac := ac) (bA := bA) (bB := bB) (kw := kw) (kt := kt) (kc := kc) (kA := kA) (kB := kB) (nW := nW) (nC := nC) (HX2.out.trans hB) (heap_ext HB0.out hB) (heap_ext HB1.out hB) (heap_ext (heap_ext (heap_alloc_new w2 _) ((Ext.drew _).trans hAA)) hBB) (by omega) (own_base (own_ext hownA.out hBB) (show w.heap.size ≤ (w2.alloc _).heap.size by simp; omega)) (own_base hownB.out (by have := hA.size; omega)) (own_sep hownA.out hownB.out (Nat.le_refl _)); generalize ((wB.setCell ⟨w2.heap.size, 0, none⟩ (.slice bA nW kA)).setCell ⟨w2.heap.size, 1, none⟩ (.slice none 0 0)).setCell ⟨w2.heap.size, 2, none⟩ (.slice bB nC kB) = wf at hst ⊢; generalize w2.heap.size = bx at hst ⊢)
  all_goals
    have hoc0 : OC wf w.heap.size (ownTo C 0) bA none bB kA 0 kB [] := by
      refine ⟨?_, World.ownsRow_nil _ _ _ _, ?_, fun i xs hx => by simp [ownTo, rowsTo] at hx, ?_⟩
      · show wf.ownsRow w.heap.size 3 1 (.slice bA (C.ws.take 14).length kA) (C.ws.take 14).length (intVals (C.ws.take 14))
        rw [HNW.out]; exact hst.oA
      · show wf.ownsRow w.heap.size 3 1 (.slice bB (C.cs.take 14).length kB) (C.cs.take 14).length (intVals (C.cs.take 14))
        rw [HNC.out]; exact hst.oB
      · show ∀ b, (Value.slice bA (C.ws.take 14).length kA).ownBlock = some b → (Value.slice bB (C.cs.take 14).length kB).ownBlock ≠ some b
        rw [HNW.out, HNC.out]; exact hst.sep
    have HOC0 := Lib.hid hoc0
    have HST := Lib.hid hst
    have hbx := hst.hbx
    clear hoc0 hst hownA hownB hAA hA hBB hB t0 t1 t2 hs2
    try clear d0
    try clear d2
    try clear f0
    try clear f2
    go_wp2_with fail
    go_loopw [4] (fun i wr => ∃ (j : Nat) (ya : Option Addr) (yt : Nat) (yv : List Value), j ≤ C.ts.length ∧ j ≤ 14 ∧ i = .int .i64 j ∧ Ext w wr ∧ wr.heap[w.heap.size]? = some (.cells #[.slice aw C.ws.length kw, .slice at_ C.ts.length kt, .slice ac C.cs.length kc] 25 (0, 0)) ∧
        wr.heap[w.heap.size + 1]? = some (.cells #[.slice none 0 0, .slice none 0 0, .slice none 0 0] 25 (0, 0)) ∧ wr.heap[bx]? = some (.cells #[.slice bA nW kA, .slice ya j yt, .slice bB nC kB] 25 (0, 0)) ∧
        OC wr w.heap.size (ownTo C j) bA ya bB kA yt kB yv) (fun i _ => 14 - (intOf i).toNat)
    case atStart => exact ⟨0, none, 0, [], Nat.zero_le _, Nat.zero_le _, rfl, HST.out.ext, HST.out.b0, HST.out.b1, HST.out.box, HOC0.out⟩
    case round =>
      clear HOC0 HST
      obtain ⟨j, ya, yt, yv, hj1, hj2, rfl, hx, h0, h1, hb, hoc⟩ := hrel
      have hlj := rowsTo_len C j hj1
      obtain ⟨a0, a1, a2⟩ := cells3 h0
      obtain ⟨y0, y1, y2⟩ := cells3 hb
      have HX := Lib.hid hx
      have H0 := Lib.hid h0
      have H1 := Lib.hid h1
      have HB := Lib.hid hb
      have HOC := Lib.hid hoc
      have HLJ := Lib.hid hlj
      clear hx h0 h1 hb hoc hlj
      by_cases hlt : j < C.ts.length ∧ j < 14
      · obtain ⟨hlt1, hlt2⟩ := hlt
        have i2d : decide ((j : Int) < 14) = true := decide_eq_true (by omega)
        obtain ⟨rb, ro, ra, rk, xs, rfl, rc, hrk, hri, hrn, hxs⟩ := HC.out.get hlt1
        have rc2 := cell_later HX.out rc
        have HRI := Lib.hid (hri.ext HX.out)
        clear rc hri
        go_wp2_with fail
        refine (list_slice ra _ rk xs _ rfl HRI.out hrk hrn).mono ?_
        rintro e w5 ⟨a5, k5, rfl, hown5, hx5⟩
        have hoc5 := HOC.out.ext hx5
        have hb5 := heap_ext HB.out hx5
        have h05 := heap_ext H0.out hx5
        have h15 := heap_ext H1.out hx5
        have hs5 := hx5.size
        have hot := hoc5.ot
        have hol := HOC.out.ot
        have e3 : (ownTo C j).ts.length = j := HLJ.out
        rw [e3] at hot hol
        have hro : RowOff (w5.alloc (.cells #[.slice a5 (xs.take 14).length k5] 22)) a5 (xs.take 14) (Value.slice ya j yt).ownBlock (Value.slice bB (C.cs.take 14).length kB).ownBlock := by
          have hcells := (cells_of_own' hown5).2.2
          refine ⟨CellsAt.ext hcells (Ext.alloc _ _), fun b o hb => ?_⟩
          subst hb
          have hlt5 := hown5.lt b rfl
          refine ⟨by simp; omega, fun e => ?_, fun e => ?_⟩
          · have := (hol.lt b e.symm).2
            omega
          · have := (HOC.out.oc.lt b e.symm).2
            omega
        have hk5 := (cells_of_own' hown5).2.1
        obtain ⟨n5, hn5⟩ : ∃ n5, (xs.take 14).length = n5 := ⟨_, rfl⟩
        rw [hn5] at hro hk5 ⊢
        have HN5 := Lib.hid hn5
        have HRO := Lib.hid hro
        have HOC5 := Lib.hid (hoc5.ext (Ext.alloc w5 (.cells #[.slice a5 n5 k5] 22)))
        obtain ⟨y0, y1, y2⟩ := cells3 hb5
        have yf := free_heap hb5
        have HB5 := Lib.hid hb5
        have H05 := Lib.hid h05
        have H15 := Lib.hid h15
        have HX5 := Lib.hid (HX.out.trans hx5)
        have hwx := HX.out.size
        clear hoc5 hb5 h05 h15 hro hn5 hown5 hx5 e3 hol rc2 a0 a1 a2
        go_wp2_with (at_builtin; refine wpList_append_lies _ rfl _ _ 23 rfl w.heap.size 22 i1 (.slice none 0 0) 1 24 Tryd.underlying23 hi1 hz10 hz11 hz12 rfl (by decide) (.slice ya j yt) j yv rfl (hot.alloc _) ⟨w5.heap.size, 0, none⟩ 1 1 [.slice a5 n5 k5] rfl rfl (World.news_of_block (cs := #[.slice a5 n5 k5]) (heap_alloc_new w5 _)) (by simp [Value.oneCell']) (by decide) (by unfold maxLen; omega) (by omega) (by simp; omega) _ rfl ?_)
        intro gt kt' w4 ht4 hgrow hat hlt4
        have hne1 := own_ne_heap hot HB5.out (by decide)
        have hne2 := own_ne_heap hot H05.out (by decide)
        have hne3 := own_ne_heap hot H15.out (by decide)
        have hb4 := heap_grown' hgrow hne1 HB5.out
        have h04 := heap_grown' hgrow hne2 H05.out
        have h14 := heap_grown' hgrow hne3 H15.out
        have hx4 := ext_grown HX5.out hgrow hot (Nat.le_refl _)
        have hoc4 : OC w4 w.heap.size (ownTo C (j + 1)) bA (some ⟨gt, 0, none⟩) bB kA kt' kB (yv ++ [.slice a5 n5 k5]) := by
          have e3 : (ownTo C j).ts.length = j := HLJ.out
          have e4 : (⟨(ownTo C j).ws, (ownTo C j).ts ++ [xs.take 14], (ownTo C j).cs⟩ : CaseD) = ownTo C (j + 1) := by
            unfold ownTo
            rw [rowsTo_step C j xs hxs.out]
          have := HOC5.out.addRow (w' := w4) (ra := a5) (rk := k5) (gt := gt) (kt' := kt') (xs := xs.take 14) (by rw [e3]; exact HRO.out) (by rw [HN5.out]; exact hk5) (by rw [e3, HN5.out]; exact ht4) (by rw [e3]; exact OExt.of_grown hgrow) (by rw [e3]; exact hat.imp id fun e => by rw [e]; simp)
          rw [e4, HN5.out] at this
          exact this
        obtain ⟨y0, y1, y2⟩ := cells3 hb4
        have yf := free_heap hb4
        have HB4 := Lib.hid hb4
        have H04 := Lib.hid h04
        have H14 := Lib.hid h14
        have HX4 := Lib.hid hx4
        have HOC4 := Lib.hid hoc4
        clear hot hgrow hat hne1 hne2 hne3 hb4 h04 h14 hx4 hoc4 ht4
        go_wp2_with fail
        go_roundw
        case rel =>
          refine ⟨j + 1, some ⟨gt, 0, none⟩, kt', _, by omega, by omega, by go_num, ?_, heap_set_other H04.out (by simp; omega), heap_set_other H14.out (by simp; omega), heap_set_same' (o := 1) (u := .slice (some ⟨gt, 0, none⟩) (j + 1) kt') HB4.out, HOC4.out.boxT HB4.out⟩
          exact ((OExt.of_ext HX4.out none none).set (by omega)).to (Ext.refl w) (fun k h => by cases h) (fun k h => by cases h)
        case measure => simp [intOf]; omega
      · have htm : j = min C.ts.length 14 := by omega
        have hD : ownTo C j = ownD C := by rw [htm]; exact ownTo_all C
        have HD := Lib.hid hD
        have hlen : (ownD C).ts.length = j := by rw [← hD]; exact HLJ.out
        have HLEN := Lib.hid hlen
        clear htm hD hlen
        obtain ⟨m, hm⟩ : ∃ m, m = j := ⟨_, rfl⟩
        subst hm
        by_cases hg1 : (m : Int) < (C.ts.length : Int)
        case' pos => have hg2 : ¬ (m : Int) < 14 := by omega
        case' neg => have hg2 : True := trivial
        all_goals
          obtain ⟨z0, z1, z2⟩ := cells3 H1.out
          have zf := free_heap H1.out
          go_wp2_with fail
          obtain ⟨f1, f2⟩ := HOC.out.boxT3 (b := w.heap.size + 1) (c0 := bA) (m0 := nW) (l0 := kA) (c1 := ya) (m1 := m) (l1 := yt) (c2 := bB) (m2 := nC) (l2 := kB) H1.out
          obtain ⟨r0, r1, r2⟩ := cells3 f2
          rw [HD.out] at f1
          refine bodyPost_ret (v := .agg #[.slice bA nW kA, .slice ya m yt, .slice bB nC kB]) (by simp [results, Tryd.results10, go_sem, r0, r1, r2]) rfl (ownPost_mk ⟨bA, ya, bB, kA, yt, kB, yv, ?_, f1, ?_⟩)
          · rw [HLEN.out]
            show Ending.returned _ = Ending.returned (.agg #[.slice bA (C.ws.take 14).length kA, .slice ya m yt, .slice bB (C.cs.take 14).length kB])
            rw [HNW.out, HNC.out]
          · exact ((((OExt.of_ext HX.out none none).set (by omega)).set (by omega)).set (by omega)).to (Ext.refl w) (fun k h => by cases h) (fun k h => by cases h)
theorem own_any (aw at_ ac : Option Addr) (kw kt kc : Nat) (C : CaseD) (w : World) (hC : CaseF w C aw at_ ac kw kt kc) :
    Calls Tryd.prog 10 #[.agg #[.slice aw C.ws.length kw, .slice at_ C.ts.length kt, .slice ac C.cs.length kc]] w fun e w' => ∃ aw' at' ac' kw' kt' kc' rv,
      e = .returned (.agg #[.slice aw' (ownD C).ws.length kw', .slice at' (ownD C).ts.length kt', .slice ac' (ownD C).cs.length kc']) ∧ OC w' w.heap.size (ownD C) aw' at' ac' kw' kt' kc' rv ∧ Ext w w' :=
  (own_post aw at_ ac kw kt kc C w hC).mono fun e w' h => h
end Go.Proofs.YtdbendnfgkonbaaDoor
