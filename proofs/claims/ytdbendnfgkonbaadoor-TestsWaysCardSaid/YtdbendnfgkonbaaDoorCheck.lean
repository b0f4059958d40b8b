/- Contracts at a good case: Check, Find, Left. -/
import Derived.Test.YtdbendnfgkonbaaDoorCosts
import Derived.Test.YtdbendnfgkonbaaDoorMathB
namespace Go.Proofs.YtdbendnfgkonbaaDoor
open Go.RowKit
set_option linter.unusedVariables false
set_option linter.unusedSimpArgs false

def checkV : Option (Int × Int) → Value
  | none => .tuple #[.int .i64 0, .int .i64 0, .int .i64 10]
  | some p => .tuple #[.int .i64 p.1, .int .i64 p.2, .int .i64 0]

theorem newTrial_ok (cv : Value) (C : CaseD) (w : World) (hC : CaseAt w cv C) (hok : caseOk C = true) : Calls Tryd.prog 33 #[cv] w fun e w' => ∃ tv, e = .returned (.tuple #[tv, .int .i64 0]) ∧ TrialAt w' tv C ∧ Ext w w' :=
  (newTrial_any cv C w hC).mono fun e w' h => by
    rcases h with ⟨_, tv, h1, h2, h3⟩ | ⟨h, _⟩
    · exact ⟨tv, h1, h2, h3⟩
    · rw [hok] at h; cases h

set_option maxHeartbeats 1000000 in
theorem Check_ok (cv : Value) (C : CaseD) (a : Option Addr) (n k : Nat) (l : List NodeD) (w : World) (hC : CaseAt w cv C) (hok : caseOk C = true) (hn : n = l.length) (hl : NodesAt w a l) (hlen : l.length ≤ 100000) :
    Calls Tryd.prog 23 #[cv, .slice a n k] w fun e w' => e = .returned (checkV (correctD C l)) ∧ Ext w w' := by
  have hC0 := hC
  obtain ⟨aw, kw, at_, kt, ac, kc, rfl, k1, k2, k3, hw, ht, hc⟩ := hC
  have hC1 := Lib.hid (hC0.ext (Ext.alloc w (.cells #[.slice aw C.ws.length kw, .slice at_ C.ts.length kt, .slice ac C.cs.length kc] 25)))
  have HL := Lib.hid hl
  have HN := Lib.hid hn
  have HOK := Lib.hid hok
  clear hC0 hw ht hc hl hn hok
  go_enter Tryd.func23, Tryd.ntmps23
  go_wp2_with fail
  refine (newTrial_ok _ C _ hC1.out HOK.out).mono ?_
  rintro e w1 ⟨tv, rfl, hT, hx1⟩
  have HX1 := Lib.hid hx1.of_alloc
  have HT := Lib.hid hT
  obtain ⟨aw', at', ac', ao', kw', kt', kc', ko', rfl, h1, h2, h3, h4, hw', ht', hc', hu'⟩ := hT
  unfold trialV at HT ⊢
  clear hw' ht' hc' hu' hx1
  go_wp2_with fail
  refine (costs_any _ C a n k l _ (HT.out.ext (Ext.alloc _ _)) HOK.out HN.out ((HL.out.ext HX1.out).ext (Ext.alloc _ _)) hlen).mono ?_
  rintro e w2 ⟨rfl, hx2⟩
  have HX2 := Lib.hid (HX1.out.trans hx2.of_alloc)
  clear hx2
  cases hcd : correctD C l with
  | none =>
    have HCD := Lib.hid hcd
    clear hcd
    unfold costsV
    go_wp2_with fail
    go_ret3
    exact ⟨ret_eq (by rw [HCD.out]; rfl), HX2.out⟩
  | some p =>
    have HCD := Lib.hid hcd
    clear hcd
    unfold costsV
    go_wp2_with fail
    go_ret3
    exact ⟨ret_eq (by rw [HCD.out]; rfl), HX2.out⟩

set_option maxHeartbeats 1000000 in
theorem Find_ok (cv : Value) (C : CaseD) (a : Option Addr) (n k f : Nat) (l : List NodeD) (p : Int × Int) (w : World) (hC : CaseAt w cv C) (hok : caseOk C = true) (hn : n = l.length) (hl : NodesAt w a l) (hlen : l.length ≤ 100000) (hf : f < C.ws.length) (hp : correctD C l = some p) :
    Calls Tryd.prog 29 #[cv, .slice a n k, .int .i64 (f : Int)] w fun e w' => ∃ a' k', e = .returned (.tuple #[.slice a' (wayOf (C.ts.map mask) l f).1.length k', .int .i64 0]) ∧
      w'.ownsRow w.heap.size 3 1 (.slice a' (wayOf (C.ts.map mask) l f).1.length k') (wayOf (C.ts.map mask) l f).1.length (natCells (wayOf (C.ts.map mask) l f).1) ∧ Ext w w' := by
  have hip : isPlanB C.ws.length C.ts.length l = true := by
    cases h : isPlanB C.ws.length C.ts.length l with
    | true => rfl
    | false => unfold correctD at hp; rw [if_neg (by rw [h]; decide)] at hp; cases hp
  have hC0 := hC
  obtain ⟨aw, kw, at_, kt, ac, kc, rfl, k1, k2, k3, hw, ht, hc⟩ := hC
  have hC1 := Lib.hid (hC0.ext (Ext.alloc w (.cells #[.slice aw C.ws.length kw, .slice at_ C.ts.length kt, .slice ac C.cs.length kc] 25)))
  have hbox := heap_alloc_new w (.cells #[.slice aw C.ws.length kw, .slice at_ C.ts.length kt, .slice ac C.cs.length kc] 25)
  have HBOX := Lib.hid hbox
  have HL := Lib.hid hl
  have HN := Lib.hid hn
  have HOK := Lib.hid hok
  have HP := Lib.hid hp
  have HIP := Lib.hid hip
  have hnw := caseOk_n hok
  obtain ⟨nw, hnwE⟩ : ∃ nw, C.ws.length = nw := ⟨_, rfl⟩
  have HNW := Lib.hid hnwE
  rw [hnwE] at hnw hf
  obtain ⟨hn1, hn10⟩ := hnw
  have hin : inR (f : Int) 0 ((nw : Int) - 1) = true := (inR_iff _ _ _).2 (by omega)
  clear hC0 hw ht hc hl hn hok hp hip hbox hnwE
  go_enter Tryd.func29, Tryd.ntmps29
  go_wp2_with fail
  refine (newTrial_ok _ C _ hC1.out HOK.out).mono ?_
  rintro e w1 ⟨tv, rfl, hT, hx1⟩
  have HX1 := Lib.hid hx1.of_alloc
  have HT := Lib.hid hT
  have hb1 := heap_ext HBOX.out hx1
  obtain ⟨c0, c1, c2⟩ := cells3 hb1
  have hz := heap_lt hb1
  obtain ⟨aw', at', ac', ao', kw', kt', kc', ko', rfl, h1, h2, h3, h4, hw', ht', hc', hu'⟩ := hT
  unfold trialV at HT ⊢
  have hcost := Lib.hid (costs_any _ C a n k l _ (HT.out.ext (Ext.alloc _ (.cells #[.slice aw' C.ws.length kw', .slice at' C.ts.length kt', .slice ac' C.cs.length kc', .slice ao' C.ts.length ko', .int .u64 ((2 ^ C.ws.length - 1 : Nat) : Int)] 67))) HOK.out HN.out ((HL.out.ext HX1.out).ext (Ext.alloc _ _)) hlen)
  have hbT := Lib.hid (heap_alloc_new w1 (.cells #[.slice aw' C.ws.length kw', .slice at' C.ts.length kt', .slice ac' C.cs.length kc', .slice ao' C.ts.length ko', .int .u64 ((2 ^ C.ws.length - 1 : Nat) : Int)] 67))
  rw [HNW.out] at c0 hcost hbT HT ⊢
  clear hw' ht' hc' hu' hx1 hb1
  go_wp2_with (go_at_call 49; refine (within_any _ _ _ _).mono ?_; rintro e w' ⟨rfl, rfl⟩)
  refine hcost.out.mono ?_
  rintro e w2 ⟨rfl, hx2⟩
  rw [HP.out]
  unfold costsV
  have HX2 := Lib.hid (HX1.out.trans hx2.of_alloc)
  obtain ⟨t0, t1, t2, t3, t4⟩ := cells5 (heap_ext hbT.out hx2)
  have HT2 := Lib.hid ((HT.out.ext (Ext.alloc _ _)).ext hx2)
  clear hx2 c0 c1 c2
  go_wp2_with fail
  refine (way_any _ C a n k f l w2 HT2.out HOK.out HN.out (HL.out.ext HX2.out) HIP.out (by omega)).mono ?_
  rintro e w3 ⟨a', k', rfl, hown, hx3⟩
  have HOWN := Lib.hid hown
  have HX3 := Lib.hid hx3
  clear hown hx3
  go_wp2_with fail
  go_ret2
  exact ⟨a', k', rfl, own_base HOWN.out HX2.out.size, HX2.out.trans HX3.out⟩
end Go.Proofs.YtdbendnfgkonbaaDoor
