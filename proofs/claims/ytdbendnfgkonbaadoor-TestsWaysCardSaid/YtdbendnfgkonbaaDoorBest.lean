/- Contracts: best, the two measures. -/
import Derived.Test.YtdbendnfgkonbaaDoorFind
import Derived.Laws.EntriesVeiled
namespace Go.Proofs.YtdbendnfgkonbaaDoor
open Go.RowKit
set_option linter.unusedVariables false
set_option linter.unusedSimpArgs false

def meanM (C : CaseD) : Meas := fun k s z o => C.cs.getD k 0 * wsum C.ws s + z + o
def worstM (C : CaseD) : Meas := fun k _ z o => C.cs.getD k 0 + max z o

theorem getD_c {C : CaseD} (hok : caseOk C = true) {k : Nat} (hk : k < C.ts.length) : 1 ≤ C.cs.getD k 0 ∧ C.cs.getD k 0 ≤ 100 := by
  have hcs := caseOk_cs hok
  have : C.cs.getD k 0 ∈ C.cs := by rw [List.getD_eq_getElem?_getD, List.getElem?_eq_getElem (by omega)]; simp
  exact caseOk_c hok this

theorem meanC (C : CaseD) (hok : caseOk C = true) : MeasC C (meanM C) 46 where
  enter := fun args w => by rfl
  call := fun tv k s zero one w hT hk hs hz ho => mean_any tv C k s zero one w hT hok (by omega) (by rw [caseOk_cs hok]; exact hk) hz ho
  tame := fun k s z o hk hs hz ho => by
    rw [List.length_map] at hk
    have h1 := getD_c hok hk
    have h2 := wsum_bd hok s
    have h3 : 0 ≤ C.cs.getD k 0 * wsum C.ws s := Int.mul_nonneg (by omega) (by omega)
    have h4 : C.cs.getD k 0 * wsum C.ws s ≤ 100 * 10000 := Int.mul_le_mul (by omega) (by omega) (by omega) (by omega)
    unfold meanM
    constructor <;> omega
theorem worstC (C : CaseD) (hok : caseOk C = true) : MeasC C (worstM C) 47 where
  enter := fun args w => by rfl
  call := fun tv k s zero one w hT hk hs hz ho => worst_any tv C k s zero one w hT hok (by rw [caseOk_cs hok]; exact hk) hz ho
  tame := fun k s z o hk hs hz ho => by
    rw [List.length_map] at hk
    have h1 := getD_c hok hk
    unfold worstM
    constructor <;> omega

set_option maxHeartbeats 1000000 in
theorem best_any (tv : Value) (C : CaseD) (m : Meas) (mf : Nat) (w : World) (hT : TrialAt w tv C) (hok : caseOk C = true) (hM : MeasC C m mf) :
    Calls Tryd.prog 64 #[tv, .func (.func mf) #[] #[]] w fun e w' => ∃ g M, e = .returned (.map (some g)) ∧ MapAt w' g .u64 M ∧ GoodM m (C.ts.map mask) C.ws.length M ∧ InM M (2 ^ C.ws.length - 1) ∧ Ext w w' := by
  have hT0 := Lib.hid hT
  obtain ⟨aw, at_, ac, ao, kw, kt, kc, ko, rfl, h1, h2, h3, h4, hw, ht, hc, hu⟩ := hT
  have hn := caseOk_n hok
  have hmm := @run_makeMap Tryd.prog
  obtain ⟨all, hall⟩ : ∃ all, 2 ^ C.ws.length - 1 = all := ⟨_, rfl⟩
  have HT : ∀ w', Ext w w' → TrialAt w' (trialV aw at_ ac ao C.ws.length kw C.ts.length kt C.cs.length kc C.ts.length ko (2 ^ C.ws.length - 1)) C := fun w' h => hT0.out.ext h
  have HU : ∀ w', Ext w w' → UintsAt w' ao (C.ts.map mask) := fun w' h => hu.ext h
  have HHT := Lib.hid HT
  have HHU := Lib.hid HU
  clear HT HU hu hw ht hc hT0
  have HALL := Lib.hid hall
  rw [hall]
  clear hall
  have hnew : ∀ a b c d v t, (((((w.alloc a).alloc b).alloc c).alloc d).alloc (Obj.cells #[v] t)).heap[w.heap.size + 1 + 1 + 1 + 1]? = some (.cells #[v] t (0, 0)) := fun a b c d v t => by
    have := heap_alloc_new ((((w.alloc a).alloc b).alloc c).alloc d) (Obj.cells #[v] t)
    simpa only [wsize_alloc] using this
  have hnc := fun a b c d v t => cells1 (hnew a b c d v t)
  have hnf := fun a b c d v t => free_heap (hnew a b c d v t) 0
  unfold trialV
  go_enter Tryd.func64, Tryd.ntmps64
  go_wp2_with fail
  clear hnc hnf
  have HM := Lib.hid hM
  have hx5 : ∀ a b c d e, Ext w (((((w.alloc a).alloc b).alloc c).alloc d).alloc e) := fun a b c d e => ((((Ext.alloc _ _).trans (Ext.alloc _ _)).trans (Ext.alloc _ _)).trans (Ext.alloc _ _)).trans (Ext.alloc _ _)
  have hb0 : ∀ a b c d e, (((((w.alloc a).alloc b).alloc c).alloc d).alloc e).heap[w.heap.size]? = some a := fun a b c d e => heap_alloc (heap_alloc (heap_alloc (heap_alloc (heap_alloc_new w a))))
  have hb1 : ∀ a b c d e, (((((w.alloc a).alloc b).alloc c).alloc d).alloc e).heap[w.heap.size + 1]? = some b := fun a b c d e => heap_alloc (heap_alloc (heap_alloc (by have := heap_alloc_new (w.alloc a) b; simpa only [wsize_alloc] using this)))
  have hb2 : ∀ a b c d e, (((((w.alloc a).alloc b).alloc c).alloc d).alloc e).heap[w.heap.size + 1 + 1]? = some c := fun a b c d e => heap_alloc (heap_alloc (by have := heap_alloc_new ((w.alloc a).alloc b) c; simpa only [wsize_alloc] using this))
  have hb3 : ∀ a b c d e, (((((w.alloc a).alloc b).alloc c).alloc d).alloc e).heap[w.heap.size + 1 + 1 + 1]? = some d := fun a b c d e => heap_alloc (by have := heap_alloc_new (((w.alloc a).alloc b).alloc c) d; simpa only [wsize_alloc] using this)
  have hpos : all ≠ 0 := by
    have := Nat.pow_le_pow_right (n := 2) (by omega) hn.1
    have := HALL.out
    omega
  have hlt : all < 2 ^ C.ws.length := by have := HALL.out; omega
  refine (find_any ⟨C, m, mf, aw, at_, ac, ao, kw, kt, kc, ko, w.heap.size + 1 + 1 + 1, w.heap.size, w.heap.size + 1, w.heap.size + 1 + 1 + 1 + 1, w.heap.size + 1 + 1⟩ HM.out hok 10 all [] _ (pop_le _) hlt hpos ⟨HHT.out _ (hx5 _ _ _ _ _), HHU.out _ (hx5 _ _ _ _ _), hb3 _ _ _ _ _, ?_, hb1 _ _ _ _ _, hnew _ _ _ _ _ _, ⟨#[], 0, hb2 _ _ _ _ _, rfl⟩, fun s v h => by simp [lookM] at h⟩).mono ?_
  · have := hb0 (.cells #[.slice aw C.ws.length kw, .slice at_ C.ts.length kt, .slice ac C.cs.length kc, .slice ao C.ts.length ko, .int .u64 (all : Int)] 67)
    rw [← HALL.out] at this ⊢
    exact this _ _ _ _
  rintro e w6 ⟨M, rfl, hR⟩
  have co : w6.cell? ⟨w.heap.size + 1 + 1 + 1, 0, none⟩ = some (.map (some (w.heap.size + 1 + 1))) := cells1 hR.inn.bo
  have HR := Lib.hid hR
  have HX := Lib.hid hx5
  have hxx : Ext w w6 := (hx5 _ _ _ _ _).grown hR.grown (by simp; omega) (fun k hk => by cases hk; dsimp only; omega)
  clear hR hb0 hb1 hb2 hb3 hnew hx5
  go_wp2_with fail
  go_ret
  exact ⟨_, M, rfl, HR.out.inn.map, HR.out.inn.good, HR.out.mem, hxx⟩

/-- What a lookup of the table gives. -/
theorem pick_any (g : Nat) (M : List (Int × Value)) (m : Meas) (ones : List Nat) (n s : Nat) (B : Nat) (w : World) (hM : MapAt w g .u64 M) (hG : GoodM m ones n M) (hs : (lookM M (s : Int)).isSome = true) (hB : w.cell? ⟨B, 0, none⟩ = some (.map (some g))) :
    Calls Tryd.prog 65 #[.int .u64 (s : Int), .pointer (some ⟨B, 0, none⟩)] w fun e w' => e = .returned (.int .i64 (choice m ones s).1) ∧ w = w' := by
  have hlook := run_lookup_at (w := w) Tryd.underlying93 Tryd.underlying65 hM (zero_choice w) (s : Int)
  obtain ⟨v, hv⟩ := Option.isSome_iff_exists.1 hs
  obtain ⟨_, rfl, _⟩ := hG s v hv
  rw [hv] at hlook
  clear hv hs
  simp only [Option.getD_some, chV] at hlook
  obtain ⟨c1, hc1⟩ : ∃ c, (choice m ones s).1 = c := ⟨_, rfl⟩
  obtain ⟨c2, hc2⟩ : ∃ c, (choice m ones s).2 = c := ⟨_, rfl⟩
  rw [hc1, hc2] at hlook
  rw [hc1]
  clear hc1 hc2
  have hfd : ∀ w : World, (Instr.field 96 (.agg #[.int .i64 c1, .int .i64 c2]) 0).run Tryd.prog w = .ok (.int .i64 c1) w := fun _ => by kernel_rfl
  go_enter Tryd.func65, Tryd.ntmps65
  go_wp2_with fail
  go_ret
  exact ⟨rfl, rfl⟩
end Go.Proofs.YtdbendnfgkonbaaDoor
