/- The views of memory that all contracts of this seat use: what a slice, a slice of slices and a case read as in a world; how they are carried along. -/
import Derived.Test.YtdbendnfgkonbaaDoorRows
import Derived.WalkKit
import Derived.WalkSpells
import Derived.WalkLawsBesides
import Derived.Lib.Hide
import Derived.Deep.QuietTactic
import Derived.BigQuiet
import Derived.RegionTactic
import Derived.Deep.AppendLies
import Derived.Deep.RegionHeld3
namespace Go.Proofs.YtdbendnfgkonbaaDoor
open Go.RowKit
set_option linter.unusedVariables false
set_option linter.unusedSimpArgs false

/-- Nothing that was there has turned. -/
abbrev Ext (w w' : World) : Prop := Below w.heap.size w w'

theorem Ext.refl (w : World) : Ext w w := Below.refl _ _
theorem Ext.trans {a b c : World} (h : Ext a b) (k : Ext b c) : Ext a c := Below.trans h (k.mono h.size)
theorem Ext.alloc (w : World) (o : Obj) : Ext w (w.alloc o) := (Below.refl _ _).alloc (Nat.le_refl _) _
theorem Ext.drew (w : World) : Ext w w.drew := (Below.refl _ _).drew
theorem Ext.drewN (w : World) (n : Nat) : Ext w (w.drewN n) := below_drewN (Below.refl _ _) n
theorem Ext.of_alloc {w w' : World} {o : Obj} (h : Ext (w.alloc o) w') : Ext w w' := (Ext.alloc w o).trans h
theorem Ext.lt {w w' : World} {o : Obj} (h : Ext (w.alloc o) w') : w.heap.size < w'.heap.size := by
  have := h.size
  simp at this
  omega

theorem lt_of_cell {w : World} {b o : Nat} {v : Value} (h : w.cell? ⟨b, o, none⟩ = some v) : b < w.heap.size :=
  World.block_lt_of_cell? w _ h

/-- After a call: the two rules by which the walk reads old cells. -/
theorem Ext.rules {w w' : World} (h : Ext w w') : (∀ b o, b < w.heap.size → w'.cell? ⟨b, o, none⟩ = w.cell? ⟨b, o, none⟩) ∧ (∀ b o, b < w.heap.size → w'.frozen? ⟨b, o, none⟩ = w.frozen? ⟨b, o, none⟩) :=
  ⟨fun b o hb => h.cell (p := ⟨b, o, none⟩) hb, fun b o hb => h.frozen (p := ⟨b, o, none⟩) hb⟩

/-- From the slice address a on lie these cells. -/
def CellsAt (w : World) (a : Option Addr) (cs : List Value) : Prop :=
  ∀ i v, cs[i]? = some v → ∃ b off, a = some ⟨b, off, none⟩ ∧ w.cell? ⟨b, off + i, none⟩ = some v

theorem CellsAt.ext {w w' : World} {a : Option Addr} {cs : List Value} (h : CellsAt w a cs) (hb : Ext w w') : CellsAt w' a cs := by
  intro i x hx
  obtain ⟨b, off, ha, hc⟩ := h i x hx
  exact ⟨b, off, ha, (hb.cell (p := ⟨b, off + i, none⟩) (lt_of_cell hc)).trans hc⟩

def IntsAt (w : World) (a : Option Addr) (xs : List Int) : Prop := CellsAt w a (xs.map (Value.int .i64))
def UintsAt (w : World) (a : Option Addr) (xs : List Nat) : Prop := CellsAt w a (xs.map fun x : Nat => Value.int .u64 (x : Int))

theorem IntsAt.ext {w w' : World} {a : Option Addr} {xs : List Int} (h : IntsAt w a xs) (hb : Ext w w') : IntsAt w' a xs := CellsAt.ext h hb
theorem UintsAt.ext {w w' : World} {a : Option Addr} {xs : List Nat} (h : UintsAt w a xs) (hb : Ext w w') : UintsAt w' a xs := CellsAt.ext h hb

theorem IntsAt.get {w : World} {a : Option Addr} {xs : List Int} (h : IntsAt w a xs) {i : Nat} (hi : i < xs.length) :
    ∃ b off x, a = some ⟨b, off, none⟩ ∧ w.cell? ⟨b, off + i, none⟩ = some (.int .i64 x) ∧ Hid (xs[i]? = some x) := by
  obtain ⟨b, off, ha, hc⟩ := h i (.int .i64 xs[i]) (by simp [hi])
  exact ⟨b, off, xs[i], ha, hc, Lib.hid (List.getElem?_eq_getElem hi)⟩

theorem UintsAt.get {w : World} {a : Option Addr} {xs : List Nat} (h : UintsAt w a xs) {i : Nat} (hi : i < xs.length) :
    ∃ b off, ∃ x : Nat, a = some ⟨b, off, none⟩ ∧ w.cell? ⟨b, off + i, none⟩ = some (.int .u64 (x : Int)) ∧ Hid (xs[i]? = some x) := by
  obtain ⟨b, off, ha, hc⟩ := h i (.int .u64 (xs[i] : Int)) (by simp [hi])
  exact ⟨b, off, xs[i], ha, hc, Lib.hid (List.getElem?_eq_getElem hi)⟩

/-- A slice of slices of ints. -/
def RowsAt (w : World) (a : Option Addr) (xss : List (List Int)) : Prop :=
  ∀ i xs, xss[i]? = some xs → ∃ b off a' k, a = some ⟨b, off, none⟩ ∧ w.cell? ⟨b, off + i, none⟩ = some (.slice a' xs.length k) ∧ xs.length ≤ k ∧ IntsAt w a' xs

theorem RowsAt.ext {w w' : World} {a : Option Addr} {xss : List (List Int)} (h : RowsAt w a xss) (hb : Ext w w') : RowsAt w' a xss := by
  intro i x hx
  obtain ⟨b, off, a', k, ha, hc, hk, hi⟩ := h i x hx
  exact ⟨b, off, a', k, ha, (hb.cell (p := ⟨b, off + i, none⟩) (lt_of_cell hc)).trans hc, hk, hi.ext hb⟩

theorem RowsAt.get {w : World} {a : Option Addr} {xss : List (List Int)} (h : RowsAt w a xss) {i : Nat} (hi : i < xss.length) :
    ∃ b off a' k, ∃ xs : List Int, a = some ⟨b, off, none⟩ ∧ w.cell? ⟨b, off + i, none⟩ = some (.slice a' xs.length k) ∧ xs.length ≤ k ∧ IntsAt w a' xs ∧ Hid (xss[i]? = some xs) := by
  obtain ⟨b, off, a', k, ha, hc, hk, hr⟩ := h i xss[i] (List.getElem?_eq_getElem hi)
  exact ⟨b, off, a', k, xss[i], ha, hc, hk, hr, Lib.hid (List.getElem?_eq_getElem hi)⟩

/-- A case as data. -/
structure CaseD where
  ws : List Int
  ts : List (List Int)
  cs : List Int

/-- A value of type api.Case reads as a case. -/
def CaseAt (w : World) (v : Value) (C : CaseD) : Prop :=
  ∃ aw kw at_ kt ac kc, v = .agg #[.slice aw C.ws.length kw, .slice at_ C.ts.length kt, .slice ac C.cs.length kc] ∧ C.ws.length ≤ kw ∧ C.ts.length ≤ kt ∧ C.cs.length ≤ kc ∧
    IntsAt w aw C.ws ∧ RowsAt w at_ C.ts ∧ IntsAt w ac C.cs

theorem CaseAt.ext {w w' : World} {v : Value} {C : CaseD} (h : CaseAt w v C) (hb : Ext w w') : CaseAt w' v C := by
  obtain ⟨aw, kw, at_, kt, ac, kc, hv, h1, h2, h3, h4, h5, h6⟩ := h
  exact ⟨aw, kw, at_, kt, ac, kc, hv, h1, h2, h3, h4.ext hb, h5.ext hb, h6.ext hb⟩

/-- What a slice owns lies there as cells. -/
theorem cells_of_own {w : World} {base : Nat} {e : TypeId} {size : Nat} {v : Value} {n : Nat} {cs : List Value} (h : w.ownsRow base e size v n cs) :
    ∃ a k, v = .slice a n k ∧ n ≤ k ∧ CellsAt w a cs := by
  rcases h.2 with ⟨rfl, h0⟩ | ⟨g, cap, cur, rfl, _, _, hn, _⟩
  · refine ⟨none, 0, by rw [h0], by omega, ?_⟩
    have : cs = [] := List.eq_nil_of_length_eq_zero (by rw [h.1, h0]; simp)
    subst this
    intro i v hv
    simp at hv
  · refine ⟨some ⟨g, 0, none⟩, cap, rfl, hn, ?_⟩
    intro i u hu
    refine ⟨g, 0, rfl, ?_⟩
    have := h.cells (g := g) rfl i u hu
    rw [Addr.add_lit, Nat.zero_add] at this
    simpa using this

theorem own_ext {w w' : World} {base : Nat} {e : TypeId} {size : Nat} {v : Value} {n : Nat} {cs : List Value} (h : w.ownsRow base e size v n cs) (hb : Ext w w') : w'.ownsRow base e size v n cs := by
  refine h.kept (w' := w') (row := none) ⟨hb.os, hb.tape, hb.output, hb.size, fun k hk _ => hb.block k hk⟩ ?_
  cases v.ownBlock <;> simp

theorem own_base {w : World} {base base' : Nat} {e : TypeId} {size : Nat} {v : Value} {n : Nat} {cs : List Value} (h : w.ownsRow base e size v n cs) (hb : base' ≤ base) : w.ownsRow base' e size v n cs := by
  obtain ⟨h1, h2⟩ := h
  refine ⟨h1, ?_⟩
  rcases h2 with h2 | ⟨g, cap, cur, hv, hg, r⟩
  · exact .inl h2
  · exact .inr ⟨g, cap, cur, hv, Nat.le_trans hb hg, r⟩

theorem cell_heap {w : World} {b : Nat} {cs : Array Value} {t : TypeId} {fr : Nat × Nat} (h : w.heap[b]? = some (.cells cs t fr)) (i : Nat) : w.cell? ⟨b, i, none⟩ = cs[i]? := by simp [World.cell?, h]
theorem free_heap {w : World} {b : Nat} {cs : Array Value} {t : TypeId} (h : w.heap[b]? = some (.cells cs t (0, 0))) (i : Nat) : w.frozen? ⟨b, i, none⟩ = false := by simp [World.frozen?, h]
theorem heap_lt {w : World} {b : Nat} {o : Obj} (h : w.heap[b]? = some o) : b < w.heap.size := (Array.getElem?_eq_some_iff.1 h).1
theorem heap_alloc {w : World} {b : Nat} {o o' : Obj} (h : w.heap[b]? = some o) : (w.alloc o').heap[b]? = some o := (Below.heap_alloc _ _ _ (heap_lt h)).trans h
theorem heap_ext {w w' : World} {b : Nat} {o : Obj} (h : w.heap[b]? = some o) (hb : Ext w w') : w'.heap[b]? = some o := (hb.block _ (heap_lt h)).trans h

theorem cells5 {w : World} {b : Nat} {x0 x1 x2 x3 x4 : Value} {t : TypeId} {fr : Nat × Nat} (h : w.heap[b]? = some (.cells #[x0, x1, x2, x3, x4] t fr)) :
    w.cell? ⟨b, 0, none⟩ = some x0 ∧ w.cell? ⟨b, 1, none⟩ = some x1 ∧ w.cell? ⟨b, 2, none⟩ = some x2 ∧ w.cell? ⟨b, 3, none⟩ = some x3 ∧ w.cell? ⟨b, 4, none⟩ = some x4 :=
  ⟨cell_heap h 0, cell_heap h 1, cell_heap h 2, cell_heap h 3, cell_heap h 4⟩

theorem own_ne {w : World} {base b : Nat} {e : TypeId} {size : Nat} {v : Value} {n : Nat} {cs : List Value} (h : w.ownsRow base e size v n cs) (hb : b < base) : v.ownBlock ≠ some b := fun he => by
  have := (h.lt b he).1
  omega
theorem own_ne_heap {w : World} {base b : Nat} {e t : TypeId} {size : Nat} {v : Value} {n : Nat} {cs : List Value} {xs : Array Value} {fr : Nat × Nat} (h : w.ownsRow base e size v n cs) (hb : w.heap[b]? = some (.cells xs t fr)) (ht : t ≠ e) : v.ownBlock ≠ some b := fun he => by
  rcases h.2 with ⟨rfl, _⟩ | ⟨g, cap, cur, rfl, _, hg, _⟩
  · simp [Value.ownBlock] at he
  · simp [Value.ownBlock] at he
    subst he
    rw [hg] at hb
    simp at hb
    exact ht hb.2.1.symm
theorem heap_grown' {w w' : World} {b : Nat} {v : Value} {o x : Obj} (hg : (w.alloc o).grownBy w' v.ownBlock) (hne : v.ownBlock ≠ some b) (h : w.heap[b]? = some x) : w'.heap[b]? = some x := by
  have hlt := heap_lt h
  rw [hg.block b (by simp; omega) (fun he => hne he.symm)]
  exact heap_alloc h
theorem cells1 {w : World} {b : Nat} {x0 : Value} {t : TypeId} {fr : Nat × Nat} (h : w.heap[b]? = some (.cells #[x0] t fr)) : w.cell? ⟨b, 0, none⟩ = some x0 := cell_heap h 0
theorem heap_set_other {w : World} {a : Addr} {k : Nat} {v : Value} {o : Obj} (h : w.heap[k]? = some o) (hne : k ≠ a.block) : (w.setCell a v).heap[k]? = some o := (heap_setCell_other w a k v hne).trans h

theorem heap_grown {w w' : World} {base b : Nat} {e : TypeId} {size : Nat} {v : Value} {n : Nat} {cs : List Value} {o x : Obj} (hg : (w.alloc o).grownBy w' v.ownBlock) (hown : w.ownsRow base e size v n cs) (hb : b < base)
    (h : w.heap[b]? = some x) : w'.heap[b]? = some x := by
  have hlt := heap_lt h
  rw [hg.block b (by simp; omega) (fun he => own_ne hown hb he.symm)]
  exact heap_alloc h
theorem ext_grown {w0 w w' : World} {base : Nat} {e : TypeId} {size : Nat} {v : Value} {n : Nat} {cs : List Value} {o : Obj} (h0 : Ext w0 w) (hg : (w.alloc o).grownBy w' v.ownBlock) (hown : w.ownsRow base e size v n cs) (hb : w0.heap.size ≤ base) : Ext w0 w' :=
  (h0.trans (Ext.alloc w o)).grown hg (by have := h0.size; simp; omega) (fun k hk => by have := (hown.lt k hk).1; omega)

theorem all_take {α : Type} {p : α → Bool} {l : List α} {j : Nat} {x : α} (h : (l.take j).all p = true) (hx : l[j]? = some x) (hp : p x = true) : (l.take (j + 1)).all p = true := by
  rw [List.take_add_one, hx, List.all_append, h]
  simp [hp]
theorem all_no {α : Type} {p : α → Bool} {l : List α} {j : Nat} {x : α} (hx : l[j]? = some x) (hp : p x = false) : l.all p = false := by
  rw [List.all_eq_false]
  exact ⟨x, List.mem_of_getElem? hx, by simp [hp]⟩
theorem map_take {α β : Type} {f : α → β} {l : List α} {j : Nat} {x : α} (hx : l[j]? = some x) : (l.take j).map f ++ [f x] = (l.take (j + 1)).map f := by
  rw [List.take_add_one, hx, List.map_append]
  simp
theorem cells_of_own' {w : World} {base : Nat} {e : TypeId} {size : Nat} {a : Option Addr} {n m k : Nat} {cs : List Value} (h : w.ownsRow base e size (.slice a m k) n cs) : m = n ∧ n ≤ k ∧ CellsAt w a cs := by
  obtain ⟨a', k', he, hk, hc⟩ := cells_of_own h
  cases he
  exact ⟨rfl, hk, hc⟩
theorem wsize_alloc (w : World) (o : Obj) : (w.alloc o).heap.size = w.heap.size + 1 := by simp

theorem info_int : (Tryd.prog.info? 3).map (fun i => (i.zero, i.size, i.bytes)) = some (some (.int .i64 0), 1, 8) := by kernel_rfl

/-- A contract of a function that leaves the world alone, turned for a region that draws its order. -/
theorem calls_flip {P : Program} {f : FuncId} {args : Array Value} {w : World} {r : Ending} (h : Calls P f args w fun e w' => e = r ∧ w = w') : Calls P f args w fun e w' => e = r ∧ w' = w :=
  h.mono fun _ _ h => ⟨h.1, h.2.symm⟩

/-- The end of a function with one result. -/
theorem ret_eq {v v' : Value} (h : v = v') : Ending.returned v = .returned v' := by rw [h]

end Go.Proofs.YtdbendnfgkonbaaDoor
