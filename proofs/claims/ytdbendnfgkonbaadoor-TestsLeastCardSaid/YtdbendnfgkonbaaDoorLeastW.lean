/- The walk of TestsLeast. -/
import Derived.Test.YtdbendnfgkonbaaDoorMathR
import Derived.Test.YtdbendnfgkonbaaDoorCheck
import Derived.Test.YtdbendnfgkonbaaDoorNodesC
import Derived.Test.YtdbendnfgkonbaaDoorTame
import Derived.Test.YtdbendnfgkonbaaDoorAwake
namespace Go.Proofs.YtdbendnfgkonbaaDoor
open Go.RowKit
set_option linter.unusedVariables false
set_option linter.unusedSimpArgs false

theorem nodes_of_own {w : World} {B : Nat} {v : Value} {l : List NodeD} (h : w.ownsRow B 45 4 v l.length (nodeCells l)) : ∃ a k, v = .slice a l.length k ∧ NodesAt w a l := by
  obtain ⟨a, k, he, _, hc⟩ := cells_of_own h
  exact ⟨a, k, he, hc⟩

/-- What Check says of any list. -/
theorem check_any {D : CaseD} (hok : caseOk D = true) (l : List NodeD) : correctD D l = none ∨ ∃ s m, correctD D l = some (s, m) ∧ bestCost D (meanM D) ≤ s ∧ bestCost D (worstM D) ≤ m := by
  cases h : correctD D l with
  | none => exact .inl rfl
  | some p =>
    obtain ⟨s, m⟩ := p
    have := correct_least hok h
    exact .inr ⟨s, m, rfl, this.1, this.2⟩

set_option maxRecDepth 20000 in
set_option maxHeartbeats 8000000 in
theorem least_walk (cv : Value) (C : CaseD) (pa : Option Addr) (pn pk : Nat) (l0 : List NodeD) (w : World) (hC : CaseAt w cv C) (hpn : pn = l0.length) (hpl : NodesAt w pa l0) (hpk : l0.length ≤ pk) (hnil : pa = none → pk = 0) (htab : TabAt w) :
    Calls Tryd.prog 4 #[cv, .slice pa pn pk] w fun e w' => e = .returned (.bool true) ∧ Ext w w' := by
  have hC0 := hC
  obtain ⟨ow, xw, ot, xt, oc, xc, rfl, k1, k2, k3, hw, ht, hc⟩ := hC
  have hC1 := Lib.hid (hC0.ext (Ext.alloc w (.cells #[.slice ow C.ws.length xw, .slice ot C.ts.length xt, .slice oc C.cs.length xc] 25)))
  have HTAB := Lib.hid htab
  have HPN := Lib.hid hpn
  have HPL := Lib.hid hpl
  have HPK := Lib.hid hpk
  have HNIL := Lib.hid hnil
  clear htab hC0 hw ht hc hpn hpl hpk hnil
  go_enter Tryd.func4, Tryd.ntmps4
  go_wp2_with fail
  refine (tame_any _ C _ hC1.out).mono ?_
  rintro e w2 ⟨aw, at_, ac, kw, kt, kc, rv, rfl, hoc, hx2⟩
  have hok := tameD_ok C
  have hal := tameD_alike C
  generalize tameD C = D at *
  have HX2 := Lib.hid hx2.of_alloc
  have HOC2 := Lib.hid hoc
  have HOK := Lib.hid hok
  have HAL := Lib.hid hal
  clear hoc hok hal hx2
  go_wp2_with fail
  have HCASE := Lib.hid (HOC2.out.ext (Ext.alloc w2 (.cells #[.slice aw D.ws.length kw, .slice at_ D.ts.length kt, .slice ac D.cs.length kc] 25))).case
  have HB3 := Lib.hid (heap_alloc_new w2 (.cells #[.slice aw D.ws.length kw, .slice at_ D.ts.length kt, .slice ac D.cs.length kc] 25))
  have HX3 := Lib.hid (HX2.out.trans (Ext.alloc w2 (.cells #[.slice aw D.ws.length kw, .slice at_ D.ts.length kt, .slice ac D.cs.length kc] 25)))
  generalize w2.alloc (.cells #[.slice aw D.ws.length kw, .slice at_ D.ts.length kt, .slice ac D.cs.length kc] 25) = w3 at *
  have HT3 := Lib.hid (HTAB.out.ext HX3.out)
  obtain ⟨pM, hpM, hpM1⟩ := bestPlan_mean HOK.out HAL.out
  obtain ⟨pW, hpW, hpW1⟩ := bestPlan_worst HOK.out HAL.out
  obtain ⟨pG, hpG⟩ := selPlan_correct HOK.out (greedySelOk HOK.out HAL.out) trivial
  obtain ⟨mm1, mm2⟩ := correct_least HOK.out hpM
  obtain ⟨wm1, wm2⟩ := correct_least HOK.out hpW
  obtain ⟨gm1, gm2⟩ := correct_least HOK.out hpG
  have lM := plan_len HOK.out hpM
  have lW := plan_len HOK.out hpW
  have lG := plan_len HOK.out hpG
  have any := check_any HOK.out (l0.take 1001)
  have bX := Best_ok _ D w3 HCASE.out HT3.out HOK.out HAL.out
  have wX := fun w' (hx : Ext w3 w') => Worst_ok _ D w' (HCASE.out.ext hx) (HT3.out.ext hx) HOK.out HAL.out
  have gX := fun w' (hx : Ext w3 w') => Greedy_ok _ D w' (HCASE.out.ext hx) (HT3.out.ext hx) HOK.out HAL.out
  have chk : ∀ w' a n k l, Ext w3 w' → n = l.length → NodesAt w' a l → l.length ≤ 100000 → Calls Tryd.prog 23 #[.agg #[.slice aw D.ws.length kw, .slice at_ D.ts.length kt, .slice ac D.cs.length kc], .slice a n k] w' fun e w'' => e = .returned (checkV (correctD D l)) ∧ Ext w' w'' :=
    fun w' a n k l hx hn hl hlen => Check_ok _ D a n k l w' (HCASE.out.ext hx) HOK.out hn hl hlen
  obtain ⟨a, ha⟩ : ∃ a, bestCost D (meanM D) = a := ⟨_, rfl⟩
  obtain ⟨b, hb⟩ : ∃ b, bestCost D (worstM D) = b := ⟨_, rfl⟩
  rw [ha] at bX hpM1 mm1 wm1 gm1 any
  rw [hb] at wX hpW1 mm2 wm2 gm2 any
  generalize bestPlan D (meanM D) = PM at *
  generalize bestPlan D (worstM D) = PW at *
  generalize planAll D (greedySel D) = PG at *
  obtain ⟨pM1, pM2⟩ := pM
  obtain ⟨pW1, pW2⟩ := pW
  obtain ⟨pG1, pG2⟩ := pG
  dsimp only at hpM1 hpW1 mm1 mm2 wm1 wm2 gm1 gm2
  subst hpM1 hpW1
  have BX := Lib.hid bX
  have WX := Lib.hid wX
  have GX := Lib.hid gX
  have CHK := Lib.hid chk
  have HPM := Lib.hid hpM
  have HPW := Lib.hid hpW
  have HPG := Lib.hid hpG
  have ANY := Lib.hid any
  clear bX wX gX chk hpM hpW hpG any ha hb
  obtain ⟨c0, c1, c2⟩ := cells3 HB3.out
  go_wp2_with fail
  refine BX.out.mono ?_
  rintro e x1 ⟨v1, rfl, ho1, hx1⟩
  obtain ⟨a1, q1, rfl, hn1⟩ := nodes_of_own ho1
  have HN1 := Lib.hid hn1
  have HX1 := Lib.hid hx1
  clear ho1 hn1 hx1 c0 c1 c2
  obtain ⟨c0, c1, c2⟩ := cells3 (heap_ext HB3.out HX1.out)
  go_wp2_with fail
  refine (WX.out _ HX1.out).mono ?_
  rintro e x2 ⟨v2, rfl, ho2, hx2⟩
  obtain ⟨a2, q2, rfl, hn2⟩ := nodes_of_own ho2
  have HN2 := Lib.hid hn2
  have HX2' := Lib.hid hx2
  have HY2 := Lib.hid (HX1.out.trans hx2)
  clear ho2 hn2 hx2 c0 c1 c2
  obtain ⟨c0, c1, c2⟩ := cells3 (heap_ext HB3.out HY2.out)
  go_wp2_with fail
  refine (GX.out _ HY2.out).mono ?_
  rintro e x3 ⟨v3, rfl, ho3, hx3⟩
  obtain ⟨a3, q3, rfl, hn3⟩ := nodes_of_own ho3
  have HN3 := Lib.hid hn3
  have HX3' := Lib.hid hx3
  have HY3 := Lib.hid (HY2.out.trans hx3)
  clear ho3 hn3 hx3 c0 c1 c2
  obtain ⟨c0, c1, c2⟩ := cells3 (heap_ext HB3.out HY3.out)
  go_wp2_with fail
  refine (CHK.out x3 a1 PM.length q1 PM HY3.out rfl (HN1.out.ext (HX2'.out.trans HX3'.out)) (by omega)).mono ?_
  rintro e x4 ⟨rfl, hx4⟩
  rw [HPM.out]
  unfold checkV
  have HX4 := Lib.hid hx4
  have HY4 := Lib.hid (HY3.out.trans hx4)
  clear hx4 c0 c1 c2
  obtain ⟨c0, c1, c2⟩ := cells3 (heap_ext HB3.out HY4.out)
  go_wp2_with fail
  refine (CHK.out x4 a2 PW.length q2 PW HY4.out rfl (HN2.out.ext (HX3'.out.trans HX4.out)) (by omega)).mono ?_
  rintro e x5 ⟨rfl, hx5⟩
  rw [HPW.out]
  unfold checkV
  have HX5 := Lib.hid hx5
  have HY5 := Lib.hid (HY4.out.trans hx5)
  clear hx5 c0 c1 c2
  obtain ⟨c0, c1, c2⟩ := cells3 (heap_ext HB3.out HY5.out)
  go_wp2_with fail
  refine (CHK.out x5 a3 PG.length q3 PG HY5.out rfl (HN3.out.ext (HX4.out.trans HX5.out)) (by omega)).mono ?_
  rintro e x6 ⟨rfl, hx6⟩
  rw [HPG.out]
  unfold checkV
  have HY6 := Lib.hid (HY5.out.trans hx6)
  clear hx6 c0 c1 c2
  obtain ⟨c0, c1, c2⟩ := cells3 (heap_ext HB3.out HY6.out)
  have hnod : Hid (∀ w', Ext x6 w' → Calls Tryd.prog 24 #[.slice pa pn pk] w' fun e w'' => ∃ a' k', e = .returned (.slice a' (l0.take 1001).length k') ∧ Hid (NodesAt w'' a' (l0.take 1001)) ∧ Ext x6 w'') := Lib.hid fun w' hx' =>
    (nodes_any pa pn pk l0 w' HPN.out (HPL.out.ext ((HX3.out.trans HY6.out).trans hx')) HPK.out HNIL.out).mono fun e w'' ⟨a', k', h1, h2, h3⟩ => ⟨a', k', h1, Lib.hid (cells_of_own' h2).2.2, hx'.trans h3⟩
  have hchk : Hid (∀ w' a' k', Ext x6 w' → NodesAt w' a' (l0.take 1001) → Calls Tryd.prog 23 #[.agg #[.slice aw D.ws.length kw, .slice at_ D.ts.length kt, .slice ac D.cs.length kc], .slice a' (l0.take 1001).length k'] w' fun e w'' => e = .returned (checkV (correctD D (l0.take 1001))) ∧ Ext w' w'') := Lib.hid fun w' a' k' hx' hn =>
    CHK.out w' a' _ k' _ (HY6.out.trans hx') rfl hn (by rw [List.length_take]; omega)
  obtain ⟨N, hN⟩ : ∃ N, (l0.take 1001).length = N := ⟨_, rfl⟩
  rw [hN] at hnod hchk
  obtain ⟨Lx, hLx⟩ : ∃ Lx, l0.take 1001 = Lx := ⟨_, rfl⟩
  rw [hLx] at hnod hchk ANY
  clear hN hLx BX WX GX CHK
  go_wp2_with fail
  have dS : x6.drew.cell? ⟨w2.heap.size, 0, none⟩ = some (.slice aw D.ws.length kw) ∧ x6.drew.cell? ⟨w2.heap.size, 1, none⟩ = some (.slice at_ D.ts.length kt) ∧ x6.drew.cell? ⟨w2.heap.size, 2, none⟩ = some (.slice ac D.cs.length kc) := ⟨c0, c1, c2⟩
  have hS : ∀ w', Ext x6 w' → w'.cell? ⟨w2.heap.size, 0, none⟩ = some (.slice aw D.ws.length kw) ∧ w'.cell? ⟨w2.heap.size, 1, none⟩ = some (.slice at_ D.ts.length kt) ∧ w'.cell? ⟨w2.heap.size, 2, none⟩ = some (.slice ac D.cs.length kc) := fun w' hx => ⟨cell_later hx c0, cell_later hx c1, cell_later hx c2⟩
  have HS := Lib.hid hS
  clear hS
  rcases ANY.out with h | ⟨cs, cm, h, hcs, hcm⟩
  · rw [h] at hchk
    simp only [checkV] at hchk
    clear h
    go_region_held3 (fun w' => w'.cell? ⟨w2.heap.size, 0, none⟩ = some (.slice aw D.ws.length kw) ∧ w'.cell? ⟨w2.heap.size, 1, none⟩ = some (.slice at_ D.ts.length kt) ∧ w'.cell? ⟨w2.heap.size, 2, none⟩ = some (.slice ac D.cs.length kc))
      (first | with_reducible exact dS | with_reducible exact HS.out _ (hA.trans hB) | with_reducible exact HS.out _ hA)
      (first
        | (go_at_call 24; (with_reducible refine (hnod.out _ (Ext.drew _)).mono ?_); rintro e wA ⟨na, nk, rfl, hnA, hA⟩)
        | (go_at_call 23; (with_reducible refine (hchk.out _ _ _ hA hnA.out).mono ?_); rintro e wB ⟨rfl, hB⟩))
    all_goals
      have HY7 := Lib.hid (HX3.out.trans (HY6.out.trans (hA.trans hB)))
      clear hA hB hnA
      go_wp2_with fail
      refine (awake_any _ (HTAB.out.ext HY7.out)).mono ?_
      rintro e x8 ⟨rfl, hx8⟩
      go_wp2_with fail
      go_ret
      exact ⟨rfl, HY7.out.trans hx8⟩
  · rw [h] at hchk
    simp only [checkV] at hchk
    clear h
    go_region_held3 (fun w' => w'.cell? ⟨w2.heap.size, 0, none⟩ = some (.slice aw D.ws.length kw) ∧ w'.cell? ⟨w2.heap.size, 1, none⟩ = some (.slice at_ D.ts.length kt) ∧ w'.cell? ⟨w2.heap.size, 2, none⟩ = some (.slice ac D.cs.length kc))
      (first | with_reducible exact dS | with_reducible exact HS.out _ (hA.trans hB) | with_reducible exact HS.out _ hA)
      (first
        | (go_at_call 24; (with_reducible refine (hnod.out _ (Ext.drew _)).mono ?_); rintro e wA ⟨na, nk, rfl, hnA, hA⟩)
        | (go_at_call 23; (with_reducible refine (hchk.out _ _ _ hA hnA.out).mono ?_); rintro e wB ⟨rfl, hB⟩))
    all_goals
      have HY7 := Lib.hid (HX3.out.trans (HY6.out.trans (hA.trans hB)))
      clear hA hB hnA
      go_wp2_with fail
      refine (awake_any _ (HTAB.out.ext HY7.out)).mono ?_
      rintro e x8 ⟨rfl, hx8⟩
      go_wp2_with fail
      go_ret
      exact ⟨rfl, HY7.out.trans hx8⟩
end Go.Proofs.YtdbendnfgkonbaaDoor
