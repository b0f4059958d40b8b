/- Contract: Greedy. -/
import Derived.Test.YtdbendnfgkonbaaDoorSelM
import Derived.Test.YtdbendnfgkonbaaDoorCover
namespace Go.Proofs.YtdbendnfgkonbaaDoor
open Go.RowKit
set_option linter.unusedVariables false
set_option linter.unusedSimpArgs false

set_option maxHeartbeats 2000000 in
theorem Greedy_any (cv : Value) (C : CaseD) (w : World) (hC : CaseAt w cv C) (htab : TabAt w) :
    Calls Tryd.prog 11 #[cv] w fun e w' =>
      (caseOk C = true ∧ alikeL (C.ts.map mask) C.ws.length = [] ∧ ∃ v, e = .returned (.tuple #[v, .int .i64 0]) ∧ w'.ownsRow w.heap.size 45 4 v (planAll C (greedySel C)).length (nodeCells (planAll C (greedySel C))) ∧ Ext w w') ∨
      (caseOk C = true ∧ alikeL (C.ts.map mask) C.ws.length ≠ [] ∧ e = .returned (.tuple #[.slice none 0 0, .int .i64 6]) ∧ Ext w w') ∨
      (caseOk C = false ∧ e = .returned (.tuple #[.slice none 0 0, .int .i64 2]) ∧ Ext w w') := by
  have hC0 := hC
  obtain ⟨aw, kw, at_, kt, ac, kc, rfl, k1, k2, k3, hw, ht, hc⟩ := hC
  have hC1 := hC0.ext (Ext.alloc w (.cells #[.slice aw C.ws.length kw, .slice at_ C.ts.length kt, .slice ac C.cs.length kc] 25))
  go_enter Tryd.func11, Tryd.ntmps11
  go_wp2_with fail
  refine (newTrial_any _ C _ hC1).mono ?_
  rintro e w1 h
  rcases h with ⟨hok, tv, rfl, hT, hx⟩ | ⟨hok, rfl, hx⟩
  · have hx0 := hx.of_alloc
    have HT := hT
    obtain ⟨aw', at', ac', ao', kw', kt', kc', ko', rfl, h1, h2, h3, h4, hw', ht', hc', hu'⟩ := hT
    have hts := caseOk_ts hok
    unfold trialV at HT ⊢
    go_wp2_with fail
    refine (alike_any _ C _ (HT.ext (Ext.alloc _ _)) hok).mono ?_
    rintro e w2 ⟨v, rfl, hown, hx2⟩
    obtain ⟨av, kv, rfl, hkv, hcells⟩ := cells_of_own hown
    have hBT := heap_ext (heap_alloc_new w1 (.cells #[.slice aw' C.ws.length kw', .slice at' C.ts.length kt', .slice ac' C.cs.length kc', .slice ao' C.ts.length ko', .int .u64 ((2 ^ C.ws.length - 1 : Nat) : Int)] 67)) hx2
    obtain ⟨t0, t1, t2, t3, t4⟩ := cells5 hBT
    obtain ⟨A, hA⟩ : ∃ A, (alikeL (C.ts.map mask) C.ws.length).length = A := ⟨_, rfl⟩
    rw [hA]
    have HA := Lib.hid hA
    clear hA
    have hx3 := hx0.trans hx2.of_alloc
    by_cases hA0 : 0 < A
    · go_wp2_with fail
      go_ret2
      refine .inr (.inl ⟨hok, ?_, rfl, hx3⟩)
      intro h
      have := HA.out
      rw [h] at this
      simp at this
      omega
    · have HT2 := (HT.ext (Ext.alloc _ _)).ext hx2
      have hal : alikeL (C.ts.map mask) C.ws.length = [] := List.length_eq_zero_iff.1 (by rw [HA.out]; omega)
      have HAL := Lib.hid hal
      have HU := Lib.hid (hu'.ext hx2.of_alloc)
      have HC := Lib.hid (hc'.ext hx2.of_alloc)
      have HBT := Lib.hid hBT
      have HX3 := Lib.hid hx3
      have HTT := Lib.hid HT2
      clear hown hcells hx hx2 hal hBT hw' ht' hc' hu' HT2 HT
      go_wp2_with fail
      refine (plan_any _ C 36 _ (greedySel C) (fun _ => True) _ HTT.out hok (htab.ext HX3.out) ⟨enter_greedy, fun s w' hx' _ hs h0 hp => ?_, greedySelOk hok HAL.out, trivial⟩).mono ?_
      · have hex := exists_split (caseOk_n hok).2 HAL.out hs h0 hp
        rw [List.length_map] at hex
        exact greedySel_any C s _ aw' at' ac' ao' kw' kt' kc' ko' w' hok hs h0 (HTT.out.ext hx') (HU.out.ext hx') (HC.out.ext hx') (heap_ext HBT.out hx') hex
      rintro e w4 ⟨v, rfl, hown, hx4⟩
      have HOWN := Lib.hid hown
      clear hown
      go_wp2_with fail
      go_ret2
      exact .inl ⟨hok, HAL.out, _, rfl, own_base HOWN.out HX3.out.size, HX3.out.trans hx4⟩
  · have hx0 := hx.of_alloc
    unfold zeroTrial
    go_wp2_with fail
    go_ret2
    exact .inr (.inr ⟨hok, rfl, hx0.trans (Ext.alloc _ _)⟩)
end Go.Proofs.YtdbendnfgkonbaaDoor
