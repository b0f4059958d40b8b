/- Contract: awake. -/
import Derived.Test.YtdbendnfgkonbaaDoorGood
import Derived.Test.YtdbendnfgkonbaaDoorWith
namespace Go.Proofs.YtdbendnfgkonbaaDoor
open Go.RowKit
set_option linter.unusedVariables false
set_option linter.unusedSimpArgs false

def awC : CaseD := ⟨[1, 1, 2], [[1, 0, 0], [0, 1, 0]], [1, 1]⟩
def awD : CaseD := ⟨[1, 1], [], []⟩
theorem aw_ok : caseOk awC = true ∧ alikeL (awC.ts.map mask) awC.ws.length = [] ∧ bestCost awC (meanM awC) = 7 ∧ bestCost awC (worstM awC) = 2 ∧ coverL (awC.ts.map mask) awC.ws.length awC.ts.length = [0, 1] := by decide +kernel
theorem aw_ok2 : caseOk awD = true ∧ alikeL (awD.ts.map mask) awD.ws.length = [(0, 1)] := by decide +kernel

theorem aw_best (cv : Value) (w : World) (hC : CaseAt w cv awC) (htab : TabAt w) : Calls Tryd.prog 21 #[cv] w fun e w' => ∃ v, e = .returned (.tuple #[v, .int .i64 7, .int .i64 0]) ∧ Ext w w' :=
  (Best_ok cv awC w hC htab aw_ok.1 aw_ok.2.1).mono fun e w' ⟨v, h1, _, h2⟩ => ⟨v, by rw [h1, aw_ok.2.2.1], h2⟩
theorem aw_worst (cv : Value) (w : World) (hC : CaseAt w cv awC) (htab : TabAt w) : Calls Tryd.prog 22 #[cv] w fun e w' => ∃ v, e = .returned (.tuple #[v, .int .i64 2, .int .i64 0]) ∧ Ext w w' :=
  (Worst_ok cv awC w hC htab aw_ok.1 aw_ok.2.1).mono fun e w' ⟨v, h1, _, h2⟩ => ⟨v, by rw [h1, aw_ok.2.2.2.1], h2⟩
theorem aw_cover (cv : Value) (w : World) (hC : CaseAt w cv awC) : Calls Tryd.prog 13 #[cv] w fun e w' => ∃ a k, e = .returned (.tuple #[.slice a 2 k, .int .i64 0]) ∧ IntsAt w' a [0, 1] ∧ Ext w w' :=
  (Cover_ok cv awC w hC aw_ok.1 aw_ok.2.1).mono fun e w' ⟨v, h1, ho, h2⟩ => by
    rw [aw_ok.2.2.2.2] at ho
    obtain ⟨a, k, rfl, _, hc⟩ := cells_of_own ho
    exact ⟨a, k, h1, ints_of_cells hc, h2⟩
theorem aw_alike (cv : Value) (w : World) (hC : CaseAt w cv awD) : Calls Tryd.prog 12 #[cv] w fun e w' => ∃ b o k, e = .returned (.tuple #[.slice (some ⟨b, o, none⟩) 1 k, .int .i64 0]) ∧
      w'.cell? ⟨b, o, none⟩ = some (.int .i64 0) ∧ w'.cell? ⟨b, o + 1, none⟩ = some (.int .i64 1) ∧ Ext w w' :=
  (Alike_ok cv awD w hC aw_ok2.1).mono fun e w' ⟨v, h1, ho, h2⟩ => by
    rw [aw_ok2.2] at ho
    obtain ⟨a, k, rfl, _, hc⟩ := cells_of_own ho
    obtain ⟨b, o, ha, c0⟩ := hc 0 (.int .i64 0) rfl
    obtain ⟨b', o', ha', c1⟩ := hc 1 (.int .i64 1) rfl
    subst ha
    cases ha'
    exact ⟨b, o, k, h1, c0, c1, h2⟩

theorem aw_case (w : World) (B : Nat) (t0 t1 t2 t3 t4 : TypeId) (f0 f1 f2 f3 f4 : Nat × Nat)
    (h0 : w.heap[B]? = some (.cells #[.int .i64 1, .int .i64 1, .int .i64 2] t0 f0)) (h1 : w.heap[B + 1]? = some (.cells #[.int .i64 1, .int .i64 0, .int .i64 0] t1 f1)) (h2 : w.heap[B + 1 + 1]? = some (.cells #[.int .i64 0, .int .i64 1, .int .i64 0] t2 f2))
    (h3 : w.heap[B + 1 + 1 + 1]? = some (.cells #[.slice (some ⟨B + 1, 0, none⟩) 3 3, .slice (some ⟨B + 1 + 1, 0, none⟩) 3 3] t3 f3)) (h4 : w.heap[B + 1 + 1 + 1 + 1]? = some (.cells #[.int .i64 1, .int .i64 1] t4 f4)) :
    CaseAt w (.agg #[.slice (some ⟨B, 0, none⟩) 3 3, .slice (some ⟨B + 1 + 1 + 1, 0, none⟩) 2 2, .slice (some ⟨B + 1 + 1 + 1 + 1, 0, none⟩) 2 2]) awC := by
  refine ⟨_, 3, _, 2, _, 2, rfl, by decide, by decide, by decide, lit_ints h0 rfl, ?_, lit_ints h4 rfl⟩
  intro i xs hx
  match i, hx with
  | 0, hx => cases hx; exact ⟨_, 0, _, 3, rfl, by rw [cell_heap h3]; rfl, by decide, lit_ints h1 rfl⟩
  | 1, hx => cases hx; exact ⟨_, 0, _, 3, rfl, by rw [cell_heap h3]; rfl, by decide, lit_ints h2 rfl⟩

theorem allocs6 (w : World) (a b c d e f : Obj) : ∃ w6, ((((((w.alloc a).alloc b).alloc c).alloc d).alloc e).alloc f) = w6 ∧ w6.heap[w.heap.size]? = some a ∧ w6.heap[w.heap.size + 1]? = some b ∧ w6.heap[w.heap.size + 1 + 1]? = some c ∧
    w6.heap[w.heap.size + 1 + 1 + 1]? = some d ∧ w6.heap[w.heap.size + 1 + 1 + 1 + 1]? = some e ∧ w6.heap[w.heap.size + 1 + 1 + 1 + 1 + 1]? = some f ∧ Ext w w6 := by
  refine ⟨_, rfl, ?_, ?_, ?_, ?_, ?_, ?_, ?_⟩
  · exact heap_alloc (heap_alloc (heap_alloc (heap_alloc (heap_alloc (heap_alloc_new _ _)))))
  · exact heap_alloc (heap_alloc (heap_alloc (heap_alloc (by have := heap_alloc_new (w.alloc a) b; simpa only [wsize_alloc] using this))))
  · exact heap_alloc (heap_alloc (heap_alloc (by have := heap_alloc_new ((w.alloc a).alloc b) c; simpa only [wsize_alloc] using this)))
  · exact heap_alloc (heap_alloc (by have := heap_alloc_new (((w.alloc a).alloc b).alloc c) d; simpa only [wsize_alloc] using this))
  · exact heap_alloc (by have := heap_alloc_new ((((w.alloc a).alloc b).alloc c).alloc d) e; simpa only [wsize_alloc] using this)
  · have := heap_alloc_new (((((w.alloc a).alloc b).alloc c).alloc d).alloc e) f
    simpa only [wsize_alloc] using this
  · exact ((((((Ext.alloc _ _).trans (Ext.alloc _ _)).trans (Ext.alloc _ _)).trans (Ext.alloc _ _)).trans (Ext.alloc _ _)).trans (Ext.alloc _ _))

set_option maxRecDepth 20000 in
set_option maxHeartbeats 2000000 in
theorem awake_any (w : World) (htab : TabAt w) : Calls Tryd.prog 15 #[] w fun e w' => e = .returned (.bool true) ∧ Ext w w' := by
  have HTAB := Lib.hid htab
  clear htab
  go_enter Tryd.func15, Tryd.ntmps15
  go_wp2_with fail
  obtain ⟨w6, hw6, h0, h1, h2, h3, h4, h5, hx⟩ := allocs6 w (.cells #[.int .i64 1, .int .i64 1, .int .i64 2] 3) (.cells #[.int .i64 1, .int .i64 0, .int .i64 0] 3) (.cells #[.int .i64 0, .int .i64 1, .int .i64 0] 3)
    (.cells #[.slice (some ⟨w.heap.size + 1, 0, none⟩) 3 3, .slice (some ⟨w.heap.size + 1 + 1, 0, none⟩) 3 3] 22) (.cells #[.int .i64 1, .int .i64 1] 3) (.cells #[.slice (some ⟨w.heap.size, 0, none⟩) 3 3, .slice (some ⟨w.heap.size + 1 + 1 + 1, 0, none⟩) 2 2, .slice (some ⟨w.heap.size + 1 + 1 + 1 + 1, 0, none⟩) 2 2] 25)
  have HC := Lib.hid (aw_case w6 w.heap.size _ _ _ _ _ _ _ _ _ _ h0 h1 h2 h3 h4)
  have H5 := Lib.hid h5
  have HX := Lib.hid hx
  rw [hw6]
  clear hw6 h0 h1 h2 h3 h4 h5 hx
  refine (aw_best _ w6 HC.out (HTAB.out.ext HX.out)).mono ?_
  rintro e w7 ⟨v7, rfl, hx7⟩
  obtain ⟨c0, c1, c2⟩ := cells3 (heap_ext H5.out hx7)
  have HX7 := Lib.hid hx7
  clear hx7
  go_wp2_with fail
  refine (aw_worst _ w7 (HC.out.ext HX7.out) (HTAB.out.ext (HX.out.trans HX7.out))).mono ?_
  rintro e w8 ⟨v8, rfl, hx8⟩
  have HX8 := Lib.hid (HX7.out.trans hx8)
  clear c0 c1 c2 hx8
  go_wp2_with fail
  have hD : CaseAt (w8.alloc (.cells #[.int .i64 1, .int .i64 1] 3)) (.agg #[.slice (some ⟨w8.heap.size, 0, none⟩) 2 2, .slice none 0 0, .slice none 0 0]) awD :=
    ⟨_, 2, none, 0, none, 0, rfl, by decide, by decide, by decide, lit_ints (heap_alloc_new w8 _) rfl, rows_nil _, ints_nil _⟩
  refine (aw_alike _ _ hD).mono ?_
  rintro e w9 ⟨b9, o9, k9, rfl, p9, q9, hx9⟩
  have HX9 := Lib.hid (HX8.out.trans hx9.of_alloc)
  obtain ⟨c0, c1, c2⟩ := cells3 (heap_ext H5.out HX9.out)
  clear hD hx9
  go_wp2_with fail
  refine (aw_cover _ w9 (HC.out.ext HX9.out)).mono ?_
  rintro e w10 ⟨a10, k10, rfl, hi10, hx10⟩
  have p10 := cell_later hx10 p9
  have q10 := cell_later hx10 q9
  have HX10 := Lib.hid (HX9.out.trans hx10)
  have HI10 := Lib.hid hi10
  clear c0 c1 c2 p9 q9 hx10 hi10
  have heq : ∀ w : World, (Op.equalIn 10000 39 (.agg #[.int .i64 0, .int .i64 1]) (.agg #[.int .i64 0, .int .i64 1])).run Tryd.prog w = .ok true w := fun _ => by kernel_rfl
  go_wp2_with fail
  have hl : IntsAt (w10.alloc (.cells #[.int .i64 0, .int .i64 1] 3)) (some ⟨w10.heap.size, 0, none⟩) [0, 1] := lit_ints (heap_alloc_new w10 _) rfl
  refine (ints_any a10 _ k10 2 [0, 1] [0, 1] _ (HI10.out.ext (Ext.alloc _ _)) hl (by decide)).mono ?_
  rintro e w11 ⟨rfl, hx11⟩
  have HX11 := Lib.hid (HX10.out.trans hx11.of_alloc)
  clear hx11 hl
  go_wp2_with fail
  go_ret
  exact ⟨rfl, HX.out.trans HX11.out⟩
end Go.Proofs.YtdbendnfgkonbaaDoor
