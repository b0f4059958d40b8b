/- Contract: with, on a case that the statement itself makes. -/
import Derived.Test.YtdbendnfgkonbaaDoorOwn
import Derived.Test.YtdbendnfgkonbaaDoorFind
import Derived.Deep.AppendLies
import Derived.Laws.OwnMore
namespace Go.Proofs.YtdbendnfgkonbaaDoor
open Go.RowKit
set_option linter.unusedVariables false
set_option linter.unusedSimpArgs false

theorem cells3 {w : World} {b : Nat} {x0 x1 x2 : Value} {t : TypeId} {fr : Nat × Nat} (h : w.heap[b]? = some (.cells #[x0, x1, x2] t fr)) :
    w.cell? ⟨b, 0, none⟩ = some x0 ∧ w.cell? ⟨b, 1, none⟩ = some x1 ∧ w.cell? ⟨b, 2, none⟩ = some x2 := ⟨cell_heap h 0, cell_heap h 1, cell_heap h 2⟩

theorem heap_set_same' {w : World} {b o : Nat} {cs : Array Value} {t : TypeId} {fr : Nat × Nat} {u : Value} (h : w.heap[b]? = some (.cells cs t fr)) : (w.setCell ⟨b, o, none⟩ u).heap[b]? = some (.cells (cs.setIfInBounds o u) t fr) := by
  obtain ⟨hb, hbe⟩ := Array.getElem?_eq_some_iff.1 h
  simp [World.setCell, hb, Array.getElem_modify, hbe]

/-- Nothing has turned but two blocks. -/
structure OExt (w w' : World) (r1 r2 : Option Nat) : Prop where
  os : w'.os = w.os
  tape : w'.tape = w.tape
  output : w'.output = w.output
  size : w.heap.size ≤ w'.heap.size
  block : ∀ k, k < w.heap.size → some k ≠ r1 → some k ≠ r2 → w'.heap[k]? = w.heap[k]?

theorem OExt.heap {w w' : World} {r1 r2 : Option Nat} (h : OExt w w' r1 r2) {b : Nat} {o : Obj} (hb : w.heap[b]? = some o) (h1 : some b ≠ r1) (h2 : some b ≠ r2) : w'.heap[b]? = some o := (h.block b (heap_lt hb) h1 h2).trans hb
theorem OExt.to {w0 w w' : World} {r1 r2 : Option Nat} (h : OExt w w' r1 r2) (h0 : Ext w0 w) (h1 : ∀ k, r1 = some k → w0.heap.size ≤ k) (h2 : ∀ k, r2 = some k → w0.heap.size ≤ k) : Ext w0 w' :=
  ⟨h.os.trans h0.os, h.tape.trans h0.tape, h.output.trans h0.output, Nat.le_trans h0.size h.size, fun k hk => (h.block k (Nat.lt_of_lt_of_le hk h0.size) (fun e => by have := h1 k e.symm; omega) (fun e => by have := h2 k e.symm; omega)).trans (h0.block k hk)⟩
theorem OExt.cell {w w' : World} {r1 r2 : Option Nat} (h : OExt w w' r1 r2) {b o : Nat} {v : Value} (hc : w.cell? ⟨b, o, none⟩ = some v) (h1 : some b ≠ r1) (h2 : some b ≠ r2) : w'.cell? ⟨b, o, none⟩ = some v :=
  (World.cell?_of_block (h.block b (lt_of_cell hc) h1 h2)).trans hc

theorem OExt.of_ext {w w' : World} (h : Ext w w') (r1 r2 : Option Nat) : OExt w w' r1 r2 := ⟨h.os, h.tape, h.output, h.size, fun k hk _ _ => h.block k hk⟩
theorem OExt.grown {w a b : World} {r1 r2 r : Option Nat} (h : OExt w a r1 r2) (hg : a.grownBy b r) (hr : ∀ k, r = some k → k < w.heap.size → some k = r1 ∨ some k = r2) : OExt w b r1 r2 :=
  ⟨hg.os.trans h.os, hg.tape.trans h.tape, hg.output.trans h.output, Nat.le_trans h.size hg.size, fun k hk h1 h2 => (hg.block k (Nat.lt_of_lt_of_le hk h.size) (fun e => by rcases hr k e.symm hk with h' | h' <;> contradiction)).trans (h.block k hk h1 h2)⟩
theorem OExt.set {w a : World} {r1 r2 : Option Nat} {B o : Nat} {v : Value} (h : OExt w a r1 r2) (hB : w.heap.size ≤ B) : OExt w (a.setCell ⟨B, o, none⟩ v) r1 r2 :=
  ⟨h.os, h.tape, h.output, by simpa using h.size, fun k hk h1 h2 => (heap_setCell_other a ⟨B, o, none⟩ k v (by simp; omega)).trans (h.block k hk h1 h2)⟩
theorem OExt.ext {w a b : World} {r1 r2 : Option Nat} (h : OExt w a r1 r2) (hb : Ext a b) : OExt w b r1 r2 := h.grown (grown_ext hb none) fun k hk => by cases hk
theorem OExt.of_grown {a b : World} {r : Option Nat} (h : a.grownBy b r) : OExt a b r none := ⟨h.os, h.tape, h.output, h.size, fun k hk h1 _ => h.block k hk h1⟩

/-- The slice's block is none of two. -/
def Off (a : Option Addr) (r1 r2 : Option Nat) : Prop := ∀ b o, a = some ⟨b, o, none⟩ → some b ≠ r1 ∧ some b ≠ r2
theorem CellsAt.off {w w' : World} {r1 r2 : Option Nat} {a : Option Addr} {cs : List Value} (h : CellsAt w a cs) (ho : OExt w w' r1 r2) (hoff : Off a r1 r2) : CellsAt w' a cs := by
  intro i x hx
  obtain ⟨b, off, ha, hc⟩ := h i x hx
  exact ⟨b, off, ha, ho.cell hc (hoff b off ha).1 (hoff b off ha).2⟩
theorem own_off {w w' : World} {r1 r2 : Option Nat} {base : Nat} {e : TypeId} {size : Nat} {v : Value} {n : Nat} {cs : List Value} (h : w.ownsRow base e size v n cs) (ho : OExt w w' r1 r2) (h1 : ∀ g, v.ownBlock = some g → some g ≠ r1 ∧ some g ≠ r2) : w'.ownsRow base e size v n cs := by
  obtain ⟨hl, hh⟩ := h
  refine ⟨hl, ?_⟩
  rcases hh with h' | ⟨g, cap, cur, rfl, hg, hb, r⟩
  · exact .inl h'
  · obtain ⟨a, b⟩ := h1 g rfl
    exact .inr ⟨g, cap, cur, rfl, hg, ho.heap hb a b, r⟩
theorem own_types {w : World} {B1 B2 : Nat} {e1 e2 : TypeId} {s1 s2 : Nat} {v1 v2 : Value} {n1 n2 : Nat} {c1 c2 : List Value} (h1 : w.ownsRow B1 e1 s1 v1 n1 c1) (h2 : w.ownsRow B2 e2 s2 v2 n2 c2) (hne : e1 ≠ e2) {g : Nat} (hg : v1.ownBlock = some g) : v2.ownBlock ≠ some g := by
  intro hg2
  rcases h1.2 with ⟨rfl, _⟩ | ⟨g1, _, _, rfl, _, hb1, _⟩
  · simp [Value.ownBlock] at hg
  rcases h2.2 with ⟨rfl, _⟩ | ⟨g2, _, _, rfl, _, hb2, _⟩
  · simp [Value.ownBlock] at hg2
  simp [Value.ownBlock] at hg hg2
  subst hg hg2
  rw [hb1] at hb2
  simp at hb2
  exact hne hb2.2

def intVals (l : List Int) : List Value := l.map (Value.int .i64)
theorem info_ints : (Tryd.prog.info? 22).map (fun i => (i.zero, i.size, i.bytes)) = some (some (.slice none 0 0), 1, 24) := by kernel_rfl

set_option maxRecDepth 4000 in
set_option maxHeartbeats 2000000 in
theorem with_any (B : Nat) (aw at_ ac ra : Option Addr) (nw kw kt kc rn rk : Nat) (n m : Nat) (rv : List Value) (cs : List Int) (x : Int) (w : World)
    (ht : w.ownsRow B 22 1 (.slice at_ n kt) n rv) (hc : w.ownsRow B 3 1 (.slice ac m kc) m (intVals cs)) (hB : B ≤ w.heap.size) (hn : n ≤ 1000) (hm : m ≤ 1000) :
    Calls Tryd.prog 27 #[.agg #[.slice aw nw kw, .slice at_ n kt, .slice ac m kc], .slice ra rn rk, .int .i64 x] w fun e w' => ∃ gt gc kt' kc',
      e = .returned (.agg #[.slice aw nw kw, .slice (some ⟨gt, 0, none⟩) (n + 1) kt', .slice (some ⟨gc, 0, none⟩) (m + 1) kc']) ∧
      w'.ownsRow B 22 1 (.slice (some ⟨gt, 0, none⟩) (n + 1) kt') (n + 1) (rv ++ [.slice ra rn rk]) ∧ w'.ownsRow B 3 1 (.slice (some ⟨gc, 0, none⟩) (m + 1) kc') (m + 1) (intVals (cs ++ [x])) ∧
      OExt w w' (Value.slice at_ n kt).ownBlock (Value.slice ac m kc).ownBlock ∧ ((Value.slice at_ n kt).ownBlock = some gt ∨ w.heap.size ≤ gt) ∧ ((Value.slice ac m kc).ownBlock = some gc ∨ w.heap.size ≤ gc) := by
  obtain ⟨i1, hi1, hz10, hz11, hz12⟩ := info_parts info_int
  obtain ⟨i2, hi2, hz20, hz21, hz22⟩ := info_parts info_ints
  go_enter Tryd.func27, Tryd.ntmps27
  go_wp2_with fail
  have hx2 : Ext w ((w.alloc (.cells #[.slice aw nw kw, .slice at_ n kt, .slice ac m kc] 25)).alloc (.cells #[.slice none 0 0, .slice none 0 0, .slice none 0 0] 25)) := (Ext.alloc _ _).trans (Ext.alloc _ _)
  have hb0 := heap_alloc (o' := .cells #[.slice none 0 0, .slice none 0 0, .slice none 0 0] 25) (heap_alloc_new w (.cells #[.slice aw nw kw, .slice at_ n kt, .slice ac m kc] 25))
  have hb1 := heap_alloc_new (w.alloc (.cells #[.slice aw nw kw, .slice at_ n kt, .slice ac m kc] 25)) (.cells #[.slice none 0 0, .slice none 0 0, .slice none 0 0] 25)
  rw [wsize_alloc] at hb1
  obtain ⟨w2, hw2⟩ : ∃ w2, (w.alloc (.cells #[.slice aw nw kw, .slice at_ n kt, .slice ac m kc] 25)).alloc (.cells #[.slice none 0 0, .slice none 0 0, .slice none 0 0] 25) = w2 := ⟨_, rfl⟩
  rw [hw2] at hx2 hb0 hb1 ⊢
  clear hw2
  obtain ⟨t0, t1, t2⟩ := cells3 hb0
  go_quiet (fail)
  have hx3 := hx2.trans (Ext.drewN w2 nq)
  have hb0' := heap_ext hb0 (Ext.drewN w2 nq)
  have hb1' := heap_ext hb1 (Ext.drewN w2 nq)
  obtain ⟨w3, hw3⟩ : ∃ w3, w2.drewN nq = w3 := ⟨_, rfl⟩
  rw [hw3] at hx3 hb0' hb1' ⊢
  clear hw3 hx2 hb0 hb1 t0 t1 t2
  have ht3 := own_ext ht hx3
  have hc3 := own_ext hc hx3
  have hs3 := heap_lt hb1'
  go_wp2_with (at_builtin; refine wpList_append_lies _ rfl _ _ 23 rfl B 22 i2 (.slice none 0 0) 1 24 Tryd.underlying23 hi2 hz20 hz21 hz22 rfl (by decide) (.slice at_ n kt) n rv rfl (ht3.alloc _) ⟨w3.heap.size, 0, none⟩ 1 1 [.slice ra rn rk] rfl rfl (World.news_of_block (cs := #[.slice ra rn rk]) (heap_alloc_new w3 _)) (by simp [Value.oneCell']) (by decide) (by unfold maxLen; omega) (by omega) (by simp; omega) _ rfl ?_)
  intro gt kt' w4 ht4 hgrow hat hlt4
  have hO3 := OExt.of_ext hx3 (Value.slice at_ n kt).ownBlock (Value.slice ac m kc).ownBlock
  have hO4 := hO3.grown ((World.grownBy_alloc w3 (.cells #[.slice ra rn rk] 22) _).trans hgrow) fun k hk _ => .inl hk.symm
  have hn0 : (Value.slice at_ n kt).ownBlock ≠ some w.heap.size := fun e => by have := (ht.lt _ e).2; omega
  have hn1 : (Value.slice at_ n kt).ownBlock ≠ some (w.heap.size + 1) := fun e => by have := (ht.lt _ e).2; omega
  have hm0 : (Value.slice ac m kc).ownBlock ≠ some w.heap.size := fun e => by have := (hc.lt _ e).2; omega
  have hm1 : (Value.slice ac m kc).ownBlock ≠ some (w.heap.size + 1) := fun e => by have := (hc.lt _ e).2; omega
  have hb04 := heap_grown' hgrow hn0 hb0'
  have hb14 := heap_grown' hgrow hn1 hb1'
  have hc4 := own_off (hc3.alloc (.cells #[.slice ra rn rk] 22)) (OExt.of_grown hgrow) fun g hg => ⟨fun e => own_types ht3 hc3 (by decide) e.symm hg, by simp⟩
  have hgt : (Value.slice at_ n kt).ownBlock = some gt ∨ w.heap.size + 2 ≤ gt := hat.imp id fun e => by first | omega | (rw [wsize_alloc] at e; omega)
  have hgtb : gt ≠ w.heap.size ∧ gt ≠ w.heap.size + 1 := by
    rcases hgt with h | h
    · exact ⟨fun e => hn0 (by rw [h, e]), fun e => hn1 (by rw [h, e])⟩
    · omega
  clear hat hgrow hO3 ht3 hc3 hb0' hb1'
  obtain ⟨t0, t1, t2⟩ := cells3 hb04
  have tz := free_heap hb04
  have hc5 := ownsRow_setCell_other hc4 (a := ⟨w.heap.size, 1, none⟩) hm0 (.slice (some ⟨gt, 0, none⟩) (n + 1) kt')
  have ht5 := ownsRow_setCell_other ht4 (a := ⟨w.heap.size, 1, none⟩) (by simp [Value.ownBlock]; omega) (.slice (some ⟨gt, 0, none⟩) (n + 1) kt')
  have hO5 := hO4.set (B := w.heap.size) (o := 1) (v := .slice (some ⟨gt, 0, none⟩) (n + 1) kt') (Nat.le_refl _)
  have hnews : ((w4.setCell ⟨w.heap.size, 1, none⟩ (.slice (some ⟨gt, 0, none⟩) (n + 1) kt')).alloc (.cells #[.int .i64 x] 3)).heap[w4.heap.size]? = some (.cells #[.int .i64 x] 3 (0, 0)) := by
    have := heap_alloc_new (w4.setCell ⟨w.heap.size, 1, none⟩ (.slice (some ⟨gt, 0, none⟩) (n + 1) kt')) (.cells #[.int .i64 x] 3)
    simpa using this
  have hs4 := heap_lt hb14
  go_wp2_with (at_builtin; refine wpList_append_lies _ rfl _ _ 22 rfl B 3 i1 (.int .i64 0) 1 8 Tryd.underlying22 hi1 hz10 hz11 hz12 rfl (by decide) (.slice ac m kc) m (intVals cs) rfl (hc5.alloc _) ⟨w4.heap.size, 0, none⟩ 1 1 [.int .i64 x] rfl rfl (World.news_of_block (cs := #[.int .i64 x]) hnews) (by simp [Value.oneCell']) (by decide) (by unfold maxLen; omega) (by omega) (by simp; omega) _ rfl ?_)
  intro gc kc' w6 hc6 hgrow hat hlt6
  have hb05 := heap_set_same' (o := 1) (u := .slice (some ⟨gt, 0, none⟩) (n + 1) kt') hb04
  have hb15 := heap_set_other (a := ⟨w.heap.size, 1, none⟩) (v := .slice (some ⟨gt, 0, none⟩) (n + 1) kt') hb14 (by simp)
  have hb06 := heap_grown' hgrow hm0 hb05
  have hb16 := heap_grown' hgrow hm1 hb15
  have hO6 := hO5.grown ((World.grownBy_alloc _ (.cells #[.int .i64 x] 3) _).trans hgrow) fun k hk _ => .inr hk.symm
  have ht6 := own_off (ht5.alloc (.cells #[.int .i64 x] 3)) (OExt.of_grown hgrow) fun g hg => ⟨fun e => own_types ht5 hc5 (by decide) hg e.symm, by simp⟩
  have hgc : (Value.slice ac m kc).ownBlock = some gc ∨ w.heap.size + 2 ≤ gc := hat.imp id fun e => by first | (simp at e; omega) | omega
  have hgcb : gc ≠ w.heap.size ∧ gc ≠ w.heap.size + 1 := by
    rcases hgc with h | h
    · exact ⟨fun e => hm0 (by rw [h, e]), fun e => hm1 (by rw [h, e])⟩
    · omega
  clear hat hgrow hnews hO5 hO4 ht4 ht5 hc4 hc5 t0 t1 t2 tz hb04 hb14 hb05 hb15
  simp at hb06
  obtain ⟨t0, t1, t2⟩ := cells3 hb06
  obtain ⟨s0, s1, s2⟩ := cells3 hb16
  have tz := free_heap hb06
  have sz := free_heap hb16
  have HO6 := Lib.hid hO6
  have HT6 := Lib.hid ht6
  have HC6 := Lib.hid hc6
  clear hO6 ht6 hc6
  go_wp2_with fail
  have h1 := heap_set_other (a := ⟨w.heap.size, 2, none⟩) (v := .slice (some ⟨gc, 0, none⟩) (m + 1) kc') hb16 (by simp)
  have h2 := heap_set_same' (o := 2) (u := .slice (some ⟨gc, 0, none⟩) (m + 1) kc') (heap_set_same' (o := 1) (u := .slice (some ⟨gt, 0, none⟩) (n + 1) kt') (heap_set_same' (o := 0) (u := .slice aw nw kw) h1))
  obtain ⟨r0, r1, r2⟩ := cells3 h2
  refine bodyPost_ret (v := .agg #[.slice aw nw kw, .slice (some ⟨gt, 0, none⟩) (n + 1) kt', .slice (some ⟨gc, 0, none⟩) (m + 1) kc']) (by simp [results, Tryd.results27, go_sem, r0, r1, r2]) rfl ⟨gt, gc, kt', kc', rfl, ?_, ?_, ?_, ?_, ?_⟩
  · exact ownsRow_setCell_other (ownsRow_setCell_other (ownsRow_setCell_other (ownsRow_setCell_other HT6.out (by simp [Value.ownBlock]; omega) _) (by simp [Value.ownBlock]; omega) _) (by simp [Value.ownBlock]; omega) _) (by simp [Value.ownBlock]; omega) _
  · unfold intVals at HC6 ⊢
    rw [List.map_append]
    exact ownsRow_setCell_other (ownsRow_setCell_other (ownsRow_setCell_other (ownsRow_setCell_other HC6.out (by simp [Value.ownBlock]; omega) _) (by simp [Value.ownBlock]; omega) _) (by simp [Value.ownBlock]; omega) _) (by simp [Value.ownBlock]; omega) _
  · exact (((HO6.out.set (Nat.le_refl _)).set (by omega)).set (by omega)).set (by omega)
  · exact hgt.imp id fun h => by omega
  · exact hgc.imp id fun h => by omega
end Go.Proofs.YtdbendnfgkonbaaDoor
