/- Contract: plan. -/
import Derived.Test.YtdbendnfgkonbaaDoorAdd
import Derived.Laws.EntriesVeiled
namespace Go.Proofs.YtdbendnfgkonbaaDoor
open Go.RowKit
set_option linter.unusedVariables false
set_option linter.unusedSimpArgs false

/-- A selecting function's contract, from world w0 on. -/
structure SelC (C : CaseD) (sf : Nat) (cap : Array Value) (sel : Nat → Nat) (dom : Nat → Prop) (w0 : World) : Prop where
  enter : ∀ args w, (callFunc sf args).run Tryd.prog w = .ok (.enter sf args) w
  call : ∀ (s : Nat) w, Ext w0 w → dom s → s < 2 ^ C.ws.length → s ≠ 0 → pop s ≠ 1 → Calls Tryd.prog sf (#[.int .u64 (s : Int)] ++ cap) w fun e w' => e = .returned (.int .i64 (sel s : Int)) ∧ Ext w w'
  sel : SelOk (C.ts.map mask) C.ws.length sel dom
  all : dom (2 ^ C.ws.length - 1)

def planAll (C : CaseD) (sel : Nat → Nat) : List NodeD := planL sel (C.ts.map mask) (2 ^ C.ws.length - 1) 0

set_option maxHeartbeats 1000000 in
theorem plan_any (tv : Value) (C : CaseD) (sf : Nat) (cap : Array Value) (sel : Nat → Nat) (dom : Nat → Prop) (w : World) (hT : TrialAt w tv C) (hok : caseOk C = true) (htab : TabAt w) (hS : SelC C sf cap sel dom w) :
    Calls Tryd.prog 35 #[tv, .func (.func sf) #[] cap] w fun e w' => ∃ v, e = .returned v ∧ w'.ownsRow w.heap.size 45 4 v (planAll C sel).length (nodeCells (planAll C sel)) ∧ Ext w w' := by
  obtain ⟨aw, at_, ac, ao, kw, kt, kc, ko, rfl, h1, h2, h3, h4, hw, ht, hc, hu⟩ := hT
  have hn := caseOk_n hok
  obtain ⟨all, hall⟩ : ∃ all, 2 ^ C.ws.length - 1 = all := ⟨_, rfl⟩
  have HU := Lib.hid hu
  have HS := Lib.hid hS
  clear hu hw ht hc hS
  have HALL := Lib.hid hall
  have hpos : all ≠ 0 := by
    have := Nat.pow_le_pow_right (n := 2) (by omega) hn.1
    omega
  have hlt : all < 2 ^ C.ws.length := by omega
  have hd := HS.out.all
  unfold planAll
  rw [hall] at hd ⊢
  clear hall
  have hnew : ∀ a b c v t, ((((w.alloc a).alloc b).alloc c).alloc (Obj.cells #[v] t)).heap[w.heap.size + 1 + 1 + 1]? = some (.cells #[v] t (0, 0)) := fun a b c v t => by
    have := heap_alloc_new (((w.alloc a).alloc b).alloc c) (Obj.cells #[v] t)
    simpa only [wsize_alloc] using this
  have hnc := fun a b c v t => cells1 (hnew a b c v t)
  have hnf := fun a b c v t => free_heap (hnew a b c v t) 0
  unfold trialV
  go_enter Tryd.func35, Tryd.ntmps35
  go_wp2_with fail
  clear hnc hnf
  have hx4 : ∀ a b c d, Ext w ((((w.alloc a).alloc b).alloc c).alloc d) := fun a b c d => (((Ext.alloc _ _).trans (Ext.alloc _ _)).trans (Ext.alloc _ _)).trans (Ext.alloc _ _)
  have hb0 : ∀ a b c d, ((((w.alloc a).alloc b).alloc c).alloc d).heap[w.heap.size]? = some a := fun a b c d => heap_alloc (heap_alloc (heap_alloc (heap_alloc_new w a)))
  have hb1 : ∀ a b c d, ((((w.alloc a).alloc b).alloc c).alloc d).heap[w.heap.size + 1]? = some b := fun a b c d => heap_alloc (heap_alloc (by have := heap_alloc_new (w.alloc a) b; simpa only [wsize_alloc] using this))
  have hb2 : ∀ a b c d, ((((w.alloc a).alloc b).alloc c).alloc d).heap[w.heap.size + 1 + 1]? = some c := fun a b c d => heap_alloc (by have := heap_alloc_new ((w.alloc a).alloc b) c; simpa only [wsize_alloc] using this)
  refine (add_any ⟨C, sf, cap, sel, dom, aw, at_, ac, ao, kw, kt, kc, ko, w⟩ ⟨HU.out, htab, HS.out.enter, HS.out.call, HS.out.sel⟩ hok 10 all [] none 0 _ (pop_le _) hd hlt hpos (by have := pop_le all; simp; omega) ⟨hx4 _ _ _ _, ?_, hb1 _ _ _ _, hb2 _ _ _ _, hnew _ _ _ _ _, World.ownsRow_nil _ _ _ _⟩).mono ?_
  · have := hb0 (.cells #[.slice aw C.ws.length kw, .slice at_ C.ts.length kt, .slice ac C.cs.length kc, .slice ao C.ts.length ko, .int .u64 (all : Int)] 67)
    rw [← HALL.out] at this ⊢
    exact this _ _ _
  rintro e w6 ⟨a', k', rfl, hR⟩
  have hRo := hR.own
  have hbo := hR.bo
  have hRx := hR.ext
  simp only [List.nil_append] at hRo hbo
  have co : w6.cell? ⟨w.heap.size + 1 + 1, 0, none⟩ = some (.slice a' (planL sel (C.ts.map mask) all 0).length k') := cells1 hbo
  have HRO := Lib.hid hRo
  clear hR hb0 hb1 hb2 hnew hx4 hbo hRo
  go_wp2_with fail
  go_ret
  exact ⟨_, ret_eq rfl, own_base HRO.out (by unfold PEnv.B; simp), hRx⟩
end Go.Proofs.YtdbendnfgkonbaaDoor
