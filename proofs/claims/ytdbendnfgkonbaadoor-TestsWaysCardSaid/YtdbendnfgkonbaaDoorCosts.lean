/- Contracts: costs, Check. -/
import Derived.Test.YtdbendnfgkonbaaDoorWay
import Derived.OwnWalk
namespace Go.Proofs.YtdbendnfgkonbaaDoor
open Go.RowKit
set_option linter.unusedVariables false
set_option linter.unusedSimpArgs false

def costOf (cs : List Int) (L : List Nat) : Int := (L.map fun k => cs.getD k 0).sum
theorem costOf_nil (cs : List Int) : costOf cs [] = 0 := rfl
theorem costOf_cons (cs : List Int) (x : Nat) (L : List Nat) : costOf cs (x :: L) = cs.getD x 0 + costOf cs L := by simp [costOf]
theorem costOf_snoc (cs : List Int) (L : List Nat) (x : Nat) : costOf cs (L ++ [x]) = costOf cs L + cs.getD x 0 := by simp [costOf]
theorem costOf_bd {C : CaseD} (hok : caseOk C = true) : ∀ L : List Nat, (∀ x ∈ L, x < C.ts.length) → 0 ≤ costOf C.cs L ∧ costOf C.cs L ≤ 100 * L.length
  | [], _ => by simp [costOf]
  | x :: L, h => by
    have ih := costOf_bd hok L fun y hy => h y (by simp [hy])
    have := getD_c hok (h x (by simp))
    rw [costOf_cons, List.length_cons]
    omega

def correctTo (C : CaseD) (l : List NodeD) : Nat → Option (Int × Int)
  | 0 => some (0, 0)
  | f + 1 => (correctTo C l f).bind fun p => if (wayOf (C.ts.map mask) l f).2 = (f : Int) then
      some (p.1 + C.ws.getD f 0 * costOf C.cs (wayOf (C.ts.map mask) l f).1, max p.2 (costOf C.cs (wayOf (C.ts.map mask) l f).1)) else none
def correctD (C : CaseD) (l : List NodeD) : Option (Int × Int) := if isPlanB C.ws.length C.ts.length l = true then correctTo C l C.ws.length else none

theorem correctTo_none {C : CaseD} {l : List NodeD} {k : Nat} (h : correctTo C l k = none) : ∀ d, correctTo C l (k + d) = none
  | 0 => h
  | d + 1 => by
    show (correctTo C l (k + d)).bind _ = none
    rw [correctTo_none h d]
    rfl
theorem correctTo_step {C : CaseD} {l : List NodeD} {f : Nat} {s m : Int} (h : correctTo C l f = some (s, m)) (hl : (wayOf (C.ts.map mask) l f).2 = (f : Int)) :
    correctTo C l (f + 1) = some (s + C.ws.getD f 0 * costOf C.cs (wayOf (C.ts.map mask) l f).1, max m (costOf C.cs (wayOf (C.ts.map mask) l f).1)) := by
  show (correctTo C l f).bind _ = _
  rw [h]
  show (if _ then _ else _) = _
  rw [if_pos hl]
theorem correctTo_stop {C : CaseD} {l : List NodeD} {f : Nat} {s m : Int} (hf : f < C.ws.length) (h : correctTo C l f = some (s, m)) (hl : ¬ (wayOf (C.ts.map mask) l f).2 = (f : Int)) (hp : isPlanB C.ws.length C.ts.length l = true) : correctD C l = none := by
  have h1 : correctTo C l (f + 1) = none := by
    show (correctTo C l f).bind _ = _
    rw [h]
    show (if _ then _ else _) = _
    rw [if_neg hl]
  have := correctTo_none h1 (C.ws.length - (f + 1))
  rw [show f + 1 + (C.ws.length - (f + 1)) = C.ws.length by omega] at this
  unfold correctD
  rw [if_pos hp, this]

theorem way_lists {C : CaseD} {l : List NodeD} (hp : isPlanB C.ws.length C.ts.length l = true) (f : Nat) : (wayOf (C.ts.map mask) l f).1.length ≤ 1000 ∧ ∀ x ∈ (wayOf (C.ts.map mask) l f).1, x < C.ts.length := by
  obtain ⟨hlen, hv⟩ := isPlan_valid hp
  obtain ⟨h1, h2⟩ := way_tests (ones := C.ts.map mask) hv f l.length 0 (by omega) (by omega)
  exact ⟨by unfold wayOf; omega, h2⟩
theorem correctTo_bd {C : CaseD} (hok : caseOk C = true) {l : List NodeD} (hp : isPlanB C.ws.length C.ts.length l = true) : ∀ (f : Nat) (s m : Int), f ≤ C.ws.length → correctTo C l f = some (s, m) → 0 ≤ s ∧ s ≤ 100000000 * f ∧ 0 ≤ m ∧ m ≤ 100000
  | 0, s, m, _, h => by cases h; omega
  | f + 1, s, m, hf, h => by
    cases hc : correctTo C l f with
    | none =>
      have : correctTo C l (f + 1) = none := by show (correctTo C l f).bind _ = _; rw [hc]; rfl
      rw [this] at h; cases h
    | some p =>
      obtain ⟨s0, m0⟩ := p
      have ih := correctTo_bd hok hp f s0 m0 (by omega) hc
      have h' : (if (wayOf (C.ts.map mask) l f).2 = (f : Int) then some (s0 + C.ws.getD f 0 * costOf C.cs (wayOf (C.ts.map mask) l f).1, max m0 (costOf C.cs (wayOf (C.ts.map mask) l f).1)) else none) = some (s, m) := by
        have : correctTo C l (f + 1) = (if (wayOf (C.ts.map mask) l f).2 = (f : Int) then some (s0 + C.ws.getD f 0 * costOf C.cs (wayOf (C.ts.map mask) l f).1, max m0 (costOf C.cs (wayOf (C.ts.map mask) l f).1)) else none) := by
          show (correctTo C l f).bind _ = _; rw [hc]; rfl
        rw [← this]; exact h
      by_cases hl : (wayOf (C.ts.map mask) l f).2 = (f : Int)
      · rw [if_pos hl] at h'
        cases h'
        obtain ⟨w1, w2⟩ := way_lists hp f
        obtain ⟨c1, c2⟩ := costOf_bd hok _ w2
        have hw : C.ws.getD f 0 ∈ C.ws := by rw [List.getD_eq_getElem?_getD, List.getElem?_eq_getElem (by omega)]; simp
        have hw := caseOk_w hok hw
        have m1 := Int.mul_nonneg (show 0 ≤ C.ws.getD f 0 by omega) c1
        have m2 : C.ws.getD f 0 * costOf C.cs (wayOf (C.ts.map mask) l f).1 ≤ 1000 * 100000 := Int.mul_le_mul (by omega) (by omega) (by omega) (by omega)
        omega
      · rw [if_neg hl] at h'; cases h'

def costsV : Option (Int × Int) → Value
  | none => .tuple #[.int .i64 0, .int .i64 0, .bool false]
  | some p => .tuple #[.int .i64 p.1, .int .i64 p.2, .bool true]

set_option maxRecDepth 8000 in
set_option maxHeartbeats 4000000 in
theorem costs_any (tv : Value) (C : CaseD) (a : Option Addr) (n k : Nat) (l : List NodeD) (w : World) (hT : TrialAt w tv C) (hok : caseOk C = true) (hn : n = l.length) (hl : NodesAt w a l) (hlen : l.length ≤ 100000) :
    Calls Tryd.prog 48 #[tv, .slice a n k] w fun e w' => e = .returned (costsV (correctD C l)) ∧ Ext w w' := by
  have HTT := Lib.hid hT
  obtain ⟨aw, at_, ac, ao, kw, kt, kc, ko, rfl, h1, h2, h3, h4, hw, ht, hc, hu⟩ := hT
  have hts := caseOk_ts hok
  have hcsl := caseOk_cs hok
  have hn10 := caseOk_n hok
  unfold trialV
  unfold trialV at HTT
  obtain ⟨nw, hnw⟩ : ∃ nw, C.ws.length = nw := ⟨_, rfl⟩
  obtain ⟨T, hTE⟩ : ∃ T, C.ts.length = T := ⟨_, rfl⟩
  obtain ⟨all, hall⟩ : ∃ all : Nat, 2 ^ C.ws.length - 1 = all := ⟨_, rfl⟩
  obtain ⟨ncs, hncs⟩ : ∃ ncs, C.cs.length = ncs := ⟨_, rfl⟩
  rw [hall, hnw, hTE, hncs] at HTT ⊢
  rw [hncs, hTE] at hcsl
  rw [hnw] at hn10
  rw [hTE] at hts
  have HNW := Lib.hid hnw
  have HTE := Lib.hid hTE
  have HNCS := Lib.hid hncs
  have HOK := Lib.hid hok
  have HW := Lib.hid hw
  have HC := Lib.hid hc
  have HN := Lib.hid hn
  have HL := Lib.hid hl
  have HCSL := Lib.hid hcsl
  have hbox := heap_alloc_new w (.cells #[.slice aw nw kw, .slice at_ T kt, .slice ac ncs kc, .slice ao T ko, .int .u64 (all : Int)] 67)
  have HBOX := Lib.hid hbox
  have hip := Lib.hid (isPlan_any _ C a n k l _ (HTT.out.ext (Ext.alloc w (.cells #[.slice aw nw kw, .slice at_ T kt, .slice ac ncs kc, .slice ao T ko, .int .u64 (all : Int)] 67))) hok hn (hl.ext (Ext.alloc _ _)) hlen)
  obtain ⟨hn1, hn10⟩ := hn10
  clear hnw hTE hall hncs hok hw ht hc hu h1 h2 h3 h4 hn hl hcsl hbox
  go_enter Tryd.func48, Tryd.ntmps48
  go_wp2_with fail
  refine hip.out.mono ?_
  rintro e w2 ⟨rfl, hx2⟩
  have Q0 := Lib.hid (heap_ext HBOX.out hx2)
  have HX2 := Lib.hid hx2.of_alloc
  clear hx2 hip
  cases hp : isPlanB C.ws.length C.ts.length l with
  | false =>
    have hr : correctD C l = none := by unfold correctD; rw [if_neg (by rw [hp]; decide)]
    have HR := Lib.hid hr
    clear hr
    go_wp2_with fail
    go_ret3
    exact ⟨ret_eq (by rw [HR.out]; rfl), HX2.out⟩
  | true =>
    have HP := Lib.hid hp
    obtain ⟨c0, c1, c2, c3, c4⟩ := cells5 Q0.out
    clear hp
    go_wp2_with fail
    clear c0 c1 c2 c3 c4
    go_loopw [7, 8, 24] (fun s7 s8 i wr => ∃ (f : Nat) (s m : Int), f ≤ nw ∧ i = .int .i64 f ∧ s7 = .int .i64 s ∧ s8 = .int .i64 m ∧ correctTo C l f = some (s, m) ∧ Ext w2 wr) (fun _ _ i _ => nw - (intOf i).toNat)
    case atStart => exact ⟨0, 0, 0, Nat.zero_le _, rfl, rfl, rfl, rfl, Ext.refl _⟩
    case round =>
      obtain ⟨f, s, m, hf, rfl, rfl, rfl, hct, hxr⟩ := hrel
      have hbd := correctTo_bd HOK.out HP.out f s m (by rw [HNW.out]; exact hf) hct
      have HCT := Lib.hid hct
      have HXR := Lib.hid hxr
      obtain ⟨hs0, hs1, hm0, hm1⟩ := hbd
      obtain ⟨c0, c1, c2, c3, c4⟩ := cells5 (heap_ext Q0.out hxr)
      clear hct hxr
      by_cases hlt : f < nw
      · obtain ⟨wb, wo, x, rfl, cx, hx⟩ := (HW.out.ext (HX2.out.trans HXR.out)).get (i := f) (by rw [HNW.out]; exact hlt)
        have hxb := caseOk_w HOK.out (List.mem_of_getElem? hx.out)
        obtain ⟨hx1, hx2⟩ := hxb
        have hgx : C.ws.getD f 0 = x := by rw [List.getD_eq_getElem?_getD, hx.out]; rfl
        have HGX := Lib.hid hgx
        obtain ⟨wl, wc⟩ := way_lists HP.out f
        have hcb := costOf_bd HOK.out _ wc
        have hway := way_any _ C a n k f l wr (HTT.out.ext (HX2.out.trans HXR.out)) HOK.out HN.out (HL.out.ext (HX2.out.trans HXR.out)) HP.out (by omega)
        obtain ⟨L, hLE⟩ : ∃ L, (wayOf (C.ts.map mask) l f).1 = L := ⟨_, rfl⟩
        obtain ⟨lf, hlfE⟩ : ∃ lf, (wayOf (C.ts.map mask) l f).2 = lf := ⟨_, rfl⟩
        have hstep := correctTo_step HCT.out
        have hstop := correctTo_stop (by rw [HNW.out]; exact hlt) HCT.out (hp := HP.out)
        rw [hLE, hlfE, hgx] at hstep
        rw [hlfE] at hstop
        rw [hLE, hlfE] at hway
        rw [hLE] at hcb wl wc
        have HSTEP := Lib.hid hstep
        have HSTOP := Lib.hid hstop
        have HWAY := Lib.hid hway
        have HWC := Lib.hid wc
        obtain ⟨nl, hnl⟩ : ∃ nl, L.length = nl := ⟨_, rfl⟩
        rw [hnl] at hcb wl HWAY
        have HNL := Lib.hid hnl
        obtain ⟨co, hco⟩ : ∃ co, costOf C.cs L = co := ⟨_, rfl⟩
        rw [hco] at hcb HSTEP
        have HCO := Lib.hid hco
        obtain ⟨hc0, hc1⟩ := hcb
        clear hgx wc hway hLE hlfE hstep hstop hnl hco hx
        go_wp2_with fail
        refine HWAY.out.mono ?_
        rintro e w5 ⟨a5, k5, rfl, hown5, hx5⟩
        have hli := ints_of_cells (cells_of_own' hown5).2.2
        have HLI := Lib.hid hli
        have HX5 := Lib.hid (HXR.out.trans hx5)
        clear hown5 hli hx5 c0 c1 c2 c3 c4
        obtain ⟨c0, c1, c2, c3, c4⟩ := cells5 (heap_ext Q0.out HX5.out)
        by_cases hlf : lf = (f : Int)
        · subst hlf
          go_wp2_with fail
          go_loop [13, 41] (fun t i => ∃ j : Nat, j ≤ nl ∧ i = .int .i64 j ∧ t = .int .i64 (costOf C.cs (L.take j))) (fun _ i => nl - (intOf i).toNat)
          case atStart => exact ⟨0, Nat.zero_le _, rfl, rfl⟩
          case round =>
            obtain ⟨j, hj, rfl, rfl⟩ := hrel
            by_cases hltj : j < nl
            · obtain ⟨lb, lo, xv, rfl, lc, hxv⟩ := HLI.out.get (i := j) (by rw [List.length_map, HNL.out]; exact hltj)
              have hxL : ∃ x, L[j]? = some x ∧ xv = (x : Int) := by
                have := hxv.out
                rw [List.getElem?_map] at this
                obtain ⟨x, h1, h2⟩ := Option.map_eq_some_iff.1 this
                exact ⟨x, h1, h2.symm⟩
              obtain ⟨t, hxl, rfl⟩ := hxL
              have htT : t < T := by rw [← HTE.out]; exact HWC.out t (List.mem_of_getElem? hxl)
              obtain ⟨cb, co', c, rfl, cc, hc⟩ := (HC.out.ext (HX2.out.trans HX5.out)).get (i := t) (by rw [HNCS.out, HCSL.out]; exact htT)
              have hcb := caseOk_c HOK.out (List.mem_of_getElem? hc.out)
              have hgc : C.cs.getD t 0 = c := by rw [List.getD_eq_getElem?_getD, hc.out]; rfl
              have hb := costOf_bd HOK.out (L.take j) (fun x hx => HWC.out x (List.mem_of_mem_take hx))
              have htl : (L.take j).length ≤ j := by rw [List.length_take]; omega
              have hst : costOf C.cs (L.take (j + 1)) = costOf C.cs (L.take j) + c := by
                rw [List.take_add_one, hxl, ← hgc]
                exact costOf_snoc _ _ _
              obtain ⟨sm, hsm⟩ : ∃ sm, costOf C.cs (L.take j) = sm := ⟨_, rfl⟩
              rw [hsm] at hb hst ⊢
              have HST := Lib.hid hst
              obtain ⟨hcb1, hcb2⟩ := hcb
              obtain ⟨hb1, hb2⟩ := hb
              have i0 : (0 : Int) ≤ (t : Int) := by omega
              have i1 : (t : Int) < (ncs : Int) := by have := HCSL.out; omega
              clear hst hgc hc hxl hsm
              go_wp2_with fail
              go_round
              case rel => exact ⟨j + 1, by omega, by go_num, by rw [HST.out]⟩
              case measure => simp [intOf]; omega
            · obtain rfl : j = nl := by omega
              have htk : L.take j = L := List.take_of_length_le (by rw [HNL.out]; exact Nat.le_refl _)
              rw [htk, HCO.out]
              obtain ⟨p, hpE⟩ : ∃ p, x * co = p := ⟨_, rfl⟩
              have hp0 : 0 ≤ p := by rw [← hpE]; exact Int.mul_nonneg (by omega) (by omega)
              have hp1 : p ≤ 1000 * 100000 := by rw [← hpE]; exact Int.mul_le_mul (by omega) (by omega) (by omega) (by omega)
              have e1 : IntKind.i64.wrap (x * co) = p := by rw [hpE]; exact IntWalk.i64_in _ (by omega)
              have e2 : wrap64 (x * co) = p := by rw [hpE]; exact IntWalk.wrap64_in _ (by omega)
              have hstep := HSTEP.out trivial
              rw [hpE] at hstep
              have HST := Lib.hid hstep
              clear htk hpE hstep
              have hmx : max m co = if m < co then co else m := by split <;> omega
              have HMX := Lib.hid hmx
              clear hmx
              go_wp2_with fail
              go_roundw
              case rel => exact ⟨f + 1, s + p, if m < co then co else m, by omega, by go_num, by go_num, rfl, by rw [HST.out, HMX.out], HX5.out⟩
              case measure => simp [intOf]; omega
        · have hr := HSTOP.out hlf
          have HR := Lib.hid hr
          have hlb : (lf != (f : Int)) = true := by simpa using hlf
          clear hr hlf
          go_wp2_with fail
          go_ret3
          exact ⟨ret_eq (by rw [HR.out]; rfl), HX2.out.trans HX5.out⟩
      · obtain rfl : f = nw := by omega
        have hr : correctD C l = some (s, m) := by unfold correctD; rw [if_pos HP.out, HNW.out]; exact HCT.out
        have HR := Lib.hid hr
        clear hr
        go_wp2_with fail
        go_ret3
        exact ⟨ret_eq (by rw [HR.out]; rfl), HX2.out.trans HXR.out⟩
end Go.Proofs.YtdbendnfgkonbaaDoor
