/- Contracts: optimal, Best, Worst. -/
import Derived.Test.YtdbendnfgkonbaaDoorGreedy
import Derived.OwnWalk
namespace Go.Proofs.YtdbendnfgkonbaaDoor
open Go.RowKit
set_option linter.unusedVariables false
set_option linter.unusedSimpArgs false

theorem stepCh_none {m : Meas} {ones : List Nat} {c : Nat → Int} {s : Nat} (h : ∀ j, splits (ones.getD j 0) s = false) : ∀ k, stepCh m ones c s k = (-1, 0)
  | 0 => rfl
  | k + 1 => by rw [stepCh, stepCh_none h k]; dsimp only; rw [if_neg (by rw [h k]; decide)]
theorem choice_one {m : Meas} {ones : List Nat} {s : Nat} (hs : s < 1024) (hp : pop s = 1) : choice m ones s = (-1, 0) := by
  refine stepCh_none (fun j => ?_) _
  cases hsp : splits (ones.getD j 0) s with
  | false => rfl
  | true =>
    obtain ⟨a1, a2, a3, a4⟩ := splits_parts hs hsp
    have := pop_pos (and_lt (n := 10) (o := ones.getD j 0) hs) a1
    omega
theorem look_cost {m : Meas} {ones : List Nat} {n s : Nat} {M : List (Int × Value)} (hG : GoodM m ones n M) (hI : InM M s) (hs : s < 1024) :
    ∃ c1, (lookM M (s : Int)).getD (.agg #[.int .i64 0, .int .i64 0]) = .agg #[.int .i64 c1, .int .i64 (cost m ones s)] := by
  have hc := cost_eq m ones s hs
  cases hl : lookM M (s : Int) with
  | none =>
    have hp : pop s = 1 := hI.resolve_right (by rw [hl]; simp)
    rw [if_pos hp] at hc
    exact ⟨0, by rw [hc]; rfl⟩
  | some v =>
    obtain ⟨_, rfl, _⟩ := hG s v hl
    refine ⟨(choice m ones s).1, ?_⟩
    simp only [Option.getD_some, chV]
    by_cases hp : pop s = 1
    · rw [if_pos hp] at hc
      rw [hc, choice_one hs hp]
    · rw [if_neg hp] at hc
      rw [hc]

theorem enter_pick (args : Array Value) (w : World) : (callFunc 65 args).run Tryd.prog w = .ok (.enter 65 args) w := by rfl

def bestPlan (C : CaseD) (m : Meas) : List NodeD := planAll C (bestSel m (C.ts.map mask))
def bestCost (C : CaseD) (m : Meas) : Int := cost m (C.ts.map mask) (2 ^ C.ws.length - 1)

/-- What Best and Worst answer. -/
def OptPost (C : CaseD) (m : Meas) (w : World) (e : Ending) (w' : World) : Prop :=
  (caseOk C = true ∧ alikeL (C.ts.map mask) C.ws.length = [] ∧ ∃ v, e = .returned (.tuple #[v, .int .i64 (bestCost C m), .int .i64 0]) ∧ w'.ownsRow w.heap.size 45 4 v (bestPlan C m).length (nodeCells (bestPlan C m)) ∧ Ext w w') ∨
  (caseOk C = true ∧ alikeL (C.ts.map mask) C.ws.length ≠ [] ∧ e = .returned (.tuple #[.slice none 0 0, .int .i64 0, .int .i64 6]) ∧ Ext w w') ∨
  (caseOk C = false ∧ e = .returned (.tuple #[.slice none 0 0, .int .i64 0, .int .i64 2]) ∧ Ext w w')

set_option maxRecDepth 4000 in
set_option maxHeartbeats 4000000 in
theorem optimal_any (cv : Value) (C : CaseD) (m : Meas) (mf : Nat) (w : World) (hC : CaseAt w cv C) (htab : TabAt w) (hM : caseOk C = true → MeasC C m mf) :
    Calls Tryd.prog 45 #[cv, .func (.func mf) #[] #[]] w (OptPost C m w) := by
  have hC0 := hC
  obtain ⟨aw, kw, at_, kt, ac, kc, rfl, k1, k2, k3, hw, ht, hc⟩ := hC
  have hC1 := hC0.ext (Ext.alloc w (.cells #[.slice aw C.ws.length kw, .slice at_ C.ts.length kt, .slice ac C.cs.length kc] 25))
  go_enter Tryd.func45, Tryd.ntmps45
  go_wp2_with fail
  refine (newTrial_any _ C _ hC1).mono ?_
  rintro e w1 h
  rcases h with ⟨hok, tv, rfl, hT, hx⟩ | ⟨hok, rfl, hx⟩
  · have hx0 := hx.of_alloc
    have HT := hT
    obtain ⟨aw', at', ac', ao', kw', kt', kc', ko', rfl, h1, h2, h3, h4, hw', ht', hc', hu'⟩ := hT
    have hts := caseOk_ts hok
    unfold trialV at HT ⊢
    go_wp2_with fail
    refine (alike_any _ C _ (HT.ext (Ext.alloc _ _)) hok).mono ?_
    rintro e w2 ⟨v, rfl, hown, hx2⟩
    obtain ⟨av, kv, rfl, hkv, hcells⟩ := cells_of_own hown
    have hBT := heap_ext (heap_alloc_new w1 (.cells #[.slice aw' C.ws.length kw', .slice at' C.ts.length kt', .slice ac' C.cs.length kc', .slice ao' C.ts.length ko', .int .u64 ((2 ^ C.ws.length - 1 : Nat) : Int)] 67)) hx2
    obtain ⟨t0, t1, t2, t3, t4⟩ := cells5 hBT
    obtain ⟨A, hA⟩ : ∃ A, (alikeL (C.ts.map mask) C.ws.length).length = A := ⟨_, rfl⟩
    rw [hA]
    have HA := Lib.hid hA
    clear hA
    have hx3 := hx0.trans hx2.of_alloc
    by_cases hA0 : 0 < A
    · go_wp2_with fail
      go_ret3
      refine .inr (.inl ⟨hok, ?_, rfl, hx3⟩)
      intro h
      have := HA.out
      rw [h] at this
      simp at this
      omega
    · have HT2 := (HT.ext (Ext.alloc _ _)).ext hx2
      have hal : alikeL (C.ts.map mask) C.ws.length = [] := List.length_eq_zero_iff.1 (by rw [HA.out]; omega)
      have HAL := Lib.hid hal
      have HBT := Lib.hid hBT
      have HX3 := Lib.hid hx3
      have HTT := Lib.hid HT2
      have HMM := Lib.hid hM
      have HTAB := Lib.hid htab
      clear hown hcells hx hx2 hal hBT hw' ht' hc' hu' HT2 HT
      go_wp2_with fail
      refine (best_any _ C m mf _ HTT.out hok (HMM.out hok)).mono ?_
      rintro e w3 ⟨g, M, rfl, hM3, hG3, hI3, hx33⟩
      have HM3 := Lib.hid hM3
      have HG3 := Lib.hid hG3
      have HI3 := Lib.hid hI3
      have HX33 := Lib.hid hx33
      clear t0 t1 t2 t3 t4
      go_wp2_with fail
      have hx4 : Ext w2 (w3.alloc (.cells #[.map (some g)] 93)) := hx33.trans (Ext.alloc _ _)
      have hM4 := hM3.ext (Ext.alloc w3 (.cells #[.map (some g)] 93))
      have hB4 := heap_alloc_new w3 (.cells #[.map (some g)] 93)
      obtain ⟨w4, hw4⟩ : ∃ w4, w3.alloc (.cells #[.map (some g)] 93) = w4 := ⟨_, rfl⟩
      rw [hw4] at hx4 hM4 hB4 ⊢
      have HX4 := Lib.hid hx4
      have HM4 := Lib.hid hM4
      have HB4 := Lib.hid hB4
      have hall : 2 ^ C.ws.length - 1 < 1024 := by
        have := Nat.le_trans (Nat.pow_le_pow_right (n := 2) (by omega) (caseOk_n hok).2) (by decide : 2 ^ 10 ≤ 1024)
        have := Nat.pow_pos (n := C.ws.length) (show 0 < 2 by omega)
        omega
      obtain ⟨c1, hc1⟩ := look_cost hG3 hI3 hall
      have HLK : ∀ w', Ext w4 w' → (Instr.lookup 93 (.map (some g)) (.int .u64 ((2 ^ C.ws.length - 1 : Nat) : Int)) false).run Tryd.prog w' = .ok (.agg #[.int .i64 c1, .int .i64 (bestCost C m)]) w' := by
        intro w' hx'
        have := run_lookup_at (w := w') Tryd.underlying93 Tryd.underlying65 (HM4.out.ext hx') (zero_choice w') ((2 ^ C.ws.length - 1 : Nat) : Int)
        rw [hc1] at this
        exact this
      have HHLK := Lib.hid HLK
      have HSEL : Hid (∀ w', Ext w4 w' → SelC C 65 #[.pointer (some ⟨w3.heap.size, 0, none⟩)] (bestSel m (C.ts.map mask)) (InM M) w') := Lib.hid fun w' hx' => by
        refine ⟨enter_pick, fun s w6 hx6 hd hs h0 hp => ?_, bestSelOk hok HAL.out HG3.out, HI3.out⟩
        have := pick_any g M m (C.ts.map mask) C.ws.length s w3.heap.size w6 (HM4.out.ext (hx'.trans hx6)) HG3.out (hd.resolve_left hp) (cells1 (heap_ext HB4.out (hx'.trans hx6)))
        rw [(bestSel_ok (exists_split (caseOk_n hok).2 HAL.out hs h0 hp)).1] at this
        exact this.mono fun e w7 h => ⟨h.1, by rw [h.2]; exact Ext.refl _⟩
      obtain ⟨bc, hbc⟩ : ∃ bc, bestCost C m = bc := ⟨_, rfl⟩
      have HBC := Lib.hid hbc
      obtain ⟨all, hallE⟩ : ∃ all, 2 ^ C.ws.length - 1 = all := ⟨_, rfl⟩
      have HALL := Lib.hid hallE
      obtain ⟨t0, t1, t2, t3, t4⟩ := cells5 (heap_ext HBT.out hx4)
      have tm := cells1 hB4
      have hl4 := HLK _ (Ext.drew w4)
      rw [hbc, hallE] at hl4
      rw [hallE] at t4
      rw [hallE]
      have hfd : ∀ w : World, (Instr.field 96 (.agg #[.int .i64 c1, .int .i64 bc]) 1).run Tryd.prog w = .ok (.int .i64 bc) w := fun _ => by kernel_rfl
      clear hw4 hx4 hM4 hB4 hc1 HLK hbc hallE hM3 hG3 hI3 hx33 htab hall
      go_region_held3 (fun w' => w'.cell? ⟨w1.heap.size, 0, none⟩ = some (.slice aw' C.ws.length kw') ∧ w'.cell? ⟨w1.heap.size, 1, none⟩ = some (.slice at' C.ts.length kt') ∧ w'.cell? ⟨w1.heap.size, 2, none⟩ = some (.slice ac' C.cs.length kc') ∧
          w'.cell? ⟨w1.heap.size, 3, none⟩ = some (.slice ao' C.ts.length ko') ∧ w'.cell? ⟨w1.heap.size, 4, none⟩ = some (.int .u64 (all : Int)) ∧ w'.cell? ⟨w3.heap.size, 0, none⟩ = some (.map (some g)) ∧
          (Instr.lookup 93 (.map (some g)) (.int .u64 (all : Int)) false).run Tryd.prog w' = .ok (.agg #[.int .i64 c1, .int .i64 bc]) w')
        (first | exact ⟨cell_later hA2 t0, cell_later hA2 t1, cell_later hA2 t2, cell_later hA2 t3, cell_later hA2 t4, cell_later hA2 tm, HBC.out ▸ HALL.out ▸ HHLK.out _ ((Ext.drew _).trans hA2)⟩ | exact ⟨t0, t1, t2, t3, t4, tm, hl4⟩)
        (first | (go_at_call 35; refine (plan_any _ C 65 _ (bestSel m (C.ts.map mask)) (InM M) _ (HALL.out ▸ (HTT.out.ext (HX4.out.trans (Ext.drew _)))) hok (HTAB.out.ext (HX3.out.trans (HX4.out.trans (Ext.drew _)))) (HSEL.out _ (Ext.drew _))).mono ?_; rintro e w5 ⟨v5, rfl, hown5, hA2⟩))
      all_goals
        rename_i hHeld
        clear hHeld t0 t1 t2 t3 t4 tm hl4
        have hx5 : Ext w w5 := HX3.out.trans (HX4.out.trans ((Ext.drew _).trans hA2))
        have hown6 := own_base hown5 (show w.heap.size ≤ w4.drew.heap.size from (HX3.out.trans HX4.out).size)
        have HOWN := Lib.hid hown6
        have HX5 := Lib.hid hx5
        clear hown5 hown6 hx5 hA2
        go_wp2_with fail
        go_ret3
        exact .inl ⟨hok, HAL.out, v5, ret_eq (by rw [HBC.out]; rfl), HOWN.out, HX5.out⟩
  · have hx0 := hx.of_alloc
    unfold zeroTrial
    go_wp2_with fail
    go_ret3
    exact .inr (.inr ⟨hok, rfl, hx0.trans (Ext.alloc _ _)⟩)

theorem Best_any (cv : Value) (C : CaseD) (w : World) (hC : CaseAt w cv C) (htab : TabAt w) : Calls Tryd.prog 21 #[cv] w (OptPost C (meanM C) w) := by
  have hC0 := hC
  obtain ⟨aw, kw, at_, kt, ac, kc, rfl, k1, k2, k3, hw, ht, hc⟩ := hC
  have hC1 := hC0.ext (Ext.alloc w (.cells #[.slice aw C.ws.length kw, .slice at_ C.ts.length kt, .slice ac C.cs.length kc] 25))
  have ht1 := htab.ext (Ext.alloc w (.cells #[.slice aw C.ws.length kw, .slice at_ C.ts.length kt, .slice ac C.cs.length kc] 25))
  go_enter Tryd.func21, Tryd.ntmps21
  go_wp2_with fail
  refine (optimal_any _ C (meanM C) 46 _ hC1 ht1 (meanC C)).mono ?_
  rintro e w1 (⟨hok, hal, v, rfl, hown, hx⟩ | ⟨hok, hal, rfl, hx⟩ | ⟨hok, rfl, hx⟩)
  · have HOWN := Lib.hid (own_base hown (show w.heap.size ≤ _ by simp))
    clear hown
    go_wp2_with fail
    go_ret3
    exact .inl ⟨hok, hal, v, rfl, HOWN.out, hx.of_alloc⟩
  · go_wp2_with fail
    go_ret3
    exact .inr (.inl ⟨hok, hal, rfl, hx.of_alloc⟩)
  · go_wp2_with fail
    go_ret3
    exact .inr (.inr ⟨hok, rfl, hx.of_alloc⟩)
theorem Worst_any (cv : Value) (C : CaseD) (w : World) (hC : CaseAt w cv C) (htab : TabAt w) : Calls Tryd.prog 22 #[cv] w (OptPost C (worstM C) w) := by
  have hC0 := hC
  obtain ⟨aw, kw, at_, kt, ac, kc, rfl, k1, k2, k3, hw, ht, hc⟩ := hC
  have hC1 := hC0.ext (Ext.alloc w (.cells #[.slice aw C.ws.length kw, .slice at_ C.ts.length kt, .slice ac C.cs.length kc] 25))
  have ht1 := htab.ext (Ext.alloc w (.cells #[.slice aw C.ws.length kw, .slice at_ C.ts.length kt, .slice ac C.cs.length kc] 25))
  go_enter Tryd.func22, Tryd.ntmps22
  go_wp2_with fail
  refine (optimal_any _ C (worstM C) 47 _ hC1 ht1 (worstC C)).mono ?_
  rintro e w1 (⟨hok, hal, v, rfl, hown, hx⟩ | ⟨hok, hal, rfl, hx⟩ | ⟨hok, rfl, hx⟩)
  · have HOWN := Lib.hid (own_base hown (show w.heap.size ≤ _ by simp))
    clear hown
    go_wp2_with fail
    go_ret3
    exact .inl ⟨hok, hal, v, rfl, HOWN.out, hx.of_alloc⟩
  · go_wp2_with fail
    go_ret3
    exact .inr (.inl ⟨hok, hal, rfl, hx.of_alloc⟩)
  · go_wp2_with fail
    go_ret3
    exact .inr (.inr ⟨hok, rfl, hx.of_alloc⟩)
end Go.Proofs.YtdbendnfgkonbaaDoor
