/- The walk of TestsWays. -/
import Derived.Test.YtdbendnfgkonbaaDoorMathS
import Derived.Test.YtdbendnfgkonbaaDoorTame
import Derived.Test.YtdbendnfgkonbaaDoorAwake
namespace Go.Proofs.YtdbendnfgkonbaaDoor
open Go.RowKit
set_option linter.unusedVariables false
set_option linter.unusedSimpArgs false

theorem nodes_own {w : World} {B : Nat} {v : Value} {l : List NodeD} (h : w.ownsRow B 45 4 v l.length (nodeCells l)) : ∃ a k, v = .slice a l.length k ∧ NodesAt w a l := by
  obtain ⟨a, k, he, _, hc⟩ := cells_of_own h
  exact ⟨a, k, he, hc⟩

theorem wrapI (n : Int) (h0 : 0 ≤ n) (h1 : n < 9223372036854775808) : IntKind.i64.wrap n = n := by
  simp [IntKind.wrap, IntKind.bits, IntKind.signed]
  omega

set_option maxRecDepth 20000 in
set_option maxHeartbeats 8000000 in
theorem ways_walk (cv : Value) (C : CaseD) (f0 : Int) (w : World) (hC : CaseAt w cv C) (htab : TabAt w) :
    Calls Tryd.prog 6 #[cv, .int .i64 f0] w fun e w' => e = .returned (.bool true) ∧ Ext w w' := by
  have hC0 := hC
  obtain ⟨ow, xw, ot, xt, oc, xc, rfl, k1, k2, k3, hw, ht, hc⟩ := hC
  have hC1 := Lib.hid (hC0.ext (Ext.alloc w (.cells #[.slice ow C.ws.length xw, .slice ot C.ts.length xt, .slice oc C.cs.length xc] 25)))
  have HTAB := Lib.hid htab
  clear htab hC0 hw ht hc
  go_enter Tryd.func6, Tryd.ntmps6
  go_wp2_with fail
  refine (tame_any _ C _ hC1.out).mono ?_
  rintro e w2 ⟨aw, at_, ac, kw, kt, kc, rv, rfl, hoc, hx2⟩
  have hok := tameD_ok C
  have hal := tameD_alike C
  generalize tameD C = D at *
  have HX2 := Lib.hid hx2.of_alloc
  have HOC2 := Lib.hid hoc
  obtain ⟨htI, hcI⟩ : RowsAt w2 at_ D.ts ∧ IntsAt w2 ac D.cs := by
    obtain ⟨_, _, _, _, _, _, he, _, _, _, _, htI, hcI⟩ := hoc.case
    cases he
    exact ⟨htI, hcI⟩
  have HTS2 := Lib.hid (htI.ext (Ext.alloc w2 (.cells #[.slice aw D.ws.length kw, .slice at_ D.ts.length kt, .slice ac D.cs.length kc] 25)))
  have HCS2 := Lib.hid (hcI.ext (Ext.alloc w2 (.cells #[.slice aw D.ws.length kw, .slice at_ D.ts.length kt, .slice ac D.cs.length kc] 25)))
  clear htI hcI
  have HOK := Lib.hid hok
  have HAL := Lib.hid hal
  have hnw := caseOk_n hok
  obtain ⟨n, hnE⟩ : ∃ n, D.ws.length = n := ⟨_, rfl⟩
  obtain ⟨T, hTE⟩ : ∃ T, D.ts.length = T := ⟨_, rfl⟩
  have hSE : D.cs.length = T := (caseOk_cs hok).trans hTE
  have hT12 := caseOk_ts hok
  rw [hTE] at hT12
  rw [hnE] at hnw
  have HNE := Lib.hid hnE
  have HTE := Lib.hid hTE
  have HSE := Lib.hid hSE
  obtain ⟨hn1, hn10⟩ := hnw
  rw [hnE, hTE, hSE] at HTS2 HCS2 ⊢
  clear hoc hok hal hx2 hnE hTE hSE
  go_wp2_with fail
  have HCASE := Lib.hid (HOC2.out.ext (Ext.alloc w2 (.cells #[.slice aw n kw, .slice at_ T kt, .slice ac T kc] 25))).case
  have HB3 := Lib.hid (heap_alloc_new w2 (.cells #[.slice aw n kw, .slice at_ T kt, .slice ac T kc] 25))
  have HX3 := Lib.hid (HX2.out.trans (Ext.alloc w2 (.cells #[.slice aw n kw, .slice at_ T kt, .slice ac T kc] 25)))
  generalize w2.alloc (.cells #[.slice aw n kw, .slice at_ T kt, .slice ac T kc] 25) = w3 at *
  rw [HNE.out, HTE.out, HSE.out] at HCASE
  have HT3 := Lib.hid (HTAB.out.ext HX3.out)
  have hmb := modI_bd f0 (n := n) (by omega)
  have hmod := Lib.hid (fun w' => mod_any f0 n w' (by omega) (by omega))
  obtain ⟨f, hf⟩ : ∃ f : Nat, modI f0 n = f := ⟨(modI f0 n).toNat, by omega⟩
  rw [hf] at hmb hmod
  have hfn : f < n := by omega
  clear hf hmb
  obtain ⟨⟨ps, worst⟩, hpM, _⟩ := bestPlan_mean HOK.out HAL.out
  have hlv := ways_leaves HOK.out HAL.out (meanM D)
  have hlf := ways_left HOK.out hpM (f := f) (by rw [HNE.out]; exact hfn)
  have hco := ways_cost hpM (f := f) (by rw [HNE.out]; exact hfn)
  have hli := ways_list hpM f
  have bX := fun w' (hx : Ext w3 w') => Best_ok _ D w' (HCASE.out.ext hx) (HT3.out.ext hx) HOK.out HAL.out
  have chk : ∀ w' a k l, Ext w3 w' → NodesAt w' a l → l.length ≤ 100000 → Calls Tryd.prog 23 #[.agg #[.slice aw n kw, .slice at_ T kt, .slice ac T kc], .slice a l.length k] w' fun e w'' => e = .returned (checkV (correctD D l)) ∧ Ext w' w'' :=
    fun w' a k l hx hl hlen => Check_ok _ D a _ k l w' (HCASE.out.ext hx) HOK.out rfl hl hlen
  have fnd := fun w' a k (l : List NodeD) p (hx : Ext w3 w') (hl : NodesAt w' a l) (hlen : l.length ≤ 100000) hp => Find_ok _ D a _ k f l p w' (HCASE.out.ext hx) HOK.out rfl hl hlen (by rw [HNE.out]; exact hfn) hp
  have lft := fun w' a k rs (hx : Ext w3 w') (hl : CellsAt w' a (pairCells rs)) (hlen : rs.length ≤ 100) hr => Left_ok _ D a _ k rs w' (HCASE.out.ext hx) HOK.out rfl hl hlen hr
  generalize bestPlan D (meanM D) = PM at *
  rw [HNE.out] at hlv hlf lft
  rw [HTE.out] at hli
  have hbd := fun j => costOf_bd HOK.out ((wayOf (D.ts.map mask) PM f).1.take j) fun x hx => by rw [HTE.out]; exact hli.2 x (List.mem_of_mem_take hx)
  obtain ⟨L, hL⟩ : ∃ L, (wayOf (D.ts.map mask) PM f).1 = L := ⟨_, rfl⟩
  have HLE := Lib.hid hL
  rw [hL] at hlf hco hli hbd
  obtain ⟨hlv1, hlv2⟩ := hlv
  obtain ⟨hli1, hli2⟩ := hli
  have HLF := Lib.hid hlf
  have HLI2 := Lib.hid hli2
  have HLV1 := Lib.hid hlv1
  have HBD := Lib.hid hbd
  have BX := Lib.hid bX
  have CHK := Lib.hid chk
  have FND := Lib.hid fnd
  have LFT := Lib.hid lft
  have HPM := Lib.hid hpM
  have HCO := Lib.hid hco
  clear bX chk fnd lft hpM hlf hli2 hL hbd hlv1 hco
  obtain ⟨c0, c1, c2⟩ := cells3 HB3.out
  go_wp2_with fail
  refine (hmod.out _).mono ?_
  rintro e w4 ⟨rfl, rfl⟩
  go_wp2_with fail
  refine (BX.out _ (Ext.refl _)).mono ?_
  rintro e x1 ⟨v1, rfl, ho1, hx1⟩
  obtain ⟨a1, q1, rfl, hn1⟩ := nodes_own ho1
  have HN1 := Lib.hid hn1
  have HX1 := Lib.hid hx1
  clear ho1 hn1 hx1 c0 c1 c2
  obtain ⟨c0, c1, c2⟩ := cells3 (heap_ext HB3.out HX1.out)
  go_wp2_with fail
  refine (CHK.out x1 a1 q1 PM HX1.out HN1.out (by omega)).mono ?_
  rintro e x4 ⟨rfl, hx4⟩
  rw [HPM.out]
  unfold checkV
  have HX4 := Lib.hid (HX1.out.trans hx4)
  have HN4 := Lib.hid (HN1.out.ext hx4)
  clear hx4 c0 c1 c2
  obtain ⟨c0, c1, c2⟩ := cells3 (heap_ext HB3.out HX4.out)
  go_wp2_with fail
  refine (FND.out x4 a1 q1 PM _ HX4.out HN4.out (by omega) HPM.out).mono ?_
  rintro e x5 ⟨a5, q5, rfl, ho5, hx5⟩
  rw [HLE.out] at ho5 ⊢
  obtain ⟨hk5, hl5, hc5⟩ := cells_of_own' ho5
  have HX5 := Lib.hid (HX4.out.trans hx5)
  have HN5 := Lib.hid (HN4.out.ext hx5)
  have HL5 := Lib.hid (ints_of_cells hc5)
  clear hx5 c0 c1 c2 ho5 hc5 hk5 hl5
  obtain ⟨c0, c1, c2⟩ := cells3 (heap_ext HB3.out HX5.out)
  go_wp2_with fail
  go_loopw [14, 15] (fun s14 i wr => ∃ j : Nat, j ≤ PM.length ∧ i = .int .i64 j ∧ s14 = .int .i64 ((PM.take j).countP (fun x => x.test == -1) : Nat) ∧ Ext x5 wr) (fun _ i _ => PM.length - (intOf i).toNat)
  case atStart => first | exact ⟨0, Nat.zero_le _, rfl, rfl, Ext.refl _⟩ | exact ⟨0, Nat.zero_le _, rfl, rfl, Ext.drew _⟩
  case round =>
    obtain ⟨j, hj, rfl, rfl, hxr⟩ := hrel
    have HXR := Lib.hid hxr
    have HNR := HN5.out.ext hxr
    have hcj := countP_take_le PM j (fun x => x.test == -1)
    by_cases hlt : j < PM.length
    · obtain ⟨b, off, x, rfl, p0, p1, p2, p3, hx⟩ := HNR.get hlt
      have hst := countP_take hx.out (fun x => x.test == -1)
      obtain ⟨cj, hcjE⟩ : ∃ cj, (PM.take j).countP (fun x => x.test == -1) = cj := ⟨_, rfl⟩
      rw [hcjE] at hst hcj ⊢
      obtain ⟨xt, hxt⟩ : ∃ xt, x.test = xt := ⟨_, rfl⟩
      rw [hxt] at p0 hst
      clear p1 p2 p3 hx hcjE hxt HNR hxr
      by_cases ht : xt = -1
      · subst ht
        have HST := Lib.hid hst
        clear hst
        go_wp2_with fail
        go_roundw
        case rel => exact ⟨j + 1, by omega, by go_num, by rw [HST.out]; rfl, HXR.out⟩
        case measure => simp [intOf]; omega
      · have : (xt == -1) = false := by simpa using ht
        rw [this] at hst
        have HST := Lib.hid hst
        clear hst this
        go_wp2_with fail
        go_roundw
        case rel => exact ⟨j + 1, by omega, by go_num, by rw [HST.out]; rfl, HXR.out⟩
        case measure => simp [intOf]; omega
    · obtain rfl : j = PM.length := by omega
      rw [List.take_length, HLV1.out]
      have HXR3 := Lib.hid (HX5.out.trans hxr)
      have HLR := Lib.hid (HL5.out.ext hxr)
      clear HNR hxr hcj c0 c1 c2
      obtain ⟨i0, hi, hz0, hz1, hz2⟩ := info_parts info_pair
      go_wp2_with fail
      go_loopw [16, 17, 18] (fun o cst i wq => ∃ (m : Nat) (la : Option Addr) (lk : Nat), m ≤ L.length ∧ i = .int .i64 m ∧ cst = .int .i64 (costOf D.cs (L.take m)) ∧ o = .slice la m lk ∧ wq.ownsRow wr.heap.size 39 2 (.slice la m lk) m (pairCells (waysRs (D.ts.map mask) (L.take m) f)) ∧ Ext wr wq)
        (fun _ _ i _ => L.length - (intOf i).toNat)
      case atStart => first | exact ⟨0, none, 0, Nat.zero_le _, rfl, rfl, rfl, World.ownsRow_nil _ _ _ _, Ext.refl _⟩ | exact ⟨0, none, 0, Nat.zero_le _, rfl, rfl, rfl, World.ownsRow_nil _ _ _ _, Ext.drew _⟩
      case round =>
        rename World => wq
        obtain ⟨m, la, lk, hm, rfl, rfl, rfl, hown, hqx⟩ := hrel
        have HQX := Lib.hid hqx
        have hcb := HBD.out m
        have hlt2 : (L.take m).length ≤ L.length := by rw [List.length_take]; omega
        have hcb' : 0 ≤ costOf D.cs (L.take m) ∧ costOf D.cs (L.take m) ≤ 2000 := by omega
        clear hcb hlt2
        by_cases hltm : m < L.length
        · obtain ⟨bl, ol, t, rfl, pl, ht⟩ := HLR.out.get (i := m) (by rw [List.length_map]; exact hltm)
          obtain ⟨tn, htn, rfl⟩ : ∃ tn : Nat, L[m]? = some tn ∧ t = (tn : Int) := by
            have := ht.out
            rw [List.getElem?_map] at this
            cases hg : L[m]? with
            | none => rw [hg] at this; cases this
            | some tn => rw [hg] at this; cases this; exact ⟨tn, rfl, rfl⟩
          have htT := HLI2.out tn (List.mem_of_getElem? htn)
          obtain ⟨bt, ot, ar, kr, row, rfl, pt, hkr, hrow, hrw⟩ := (HTS2.out.ext HXR3.out).get (i := tn) (by rw [HTE.out]; exact htT)
          have hrl : row.length = n := by rw [← HNE.out]; exact (caseOk_row HOK.out (List.mem_of_getElem? hrw.out)).1
          obtain ⟨br, orr, x, rfl, pr, hx⟩ := hrow.get (i := f) (by rw [hrl]; exact hfn)
          rw [hrl] at pt
          obtain rfl := row_val HOK.out hrw.out hx.out
          obtain ⟨bc, oc, cx, rfl, pc, hcx⟩ := (HCS2.out.ext HXR3.out).get (i := tn) (by rw [HSE.out]; exact htT)
          have hrs := waysRs_take (D.ts.map mask) f htn
          have hcs : costOf D.cs (L.take (m + 1)) = costOf D.cs (L.take m) + cx := by
            rw [List.take_add_one, htn]
            have : D.cs.getD tn 0 = cx := by rw [List.getD_eq_getElem?_getD, hcx.out]; rfl
            rw [← this]
            exact costOf_snoc _ _ _
          have hcxb : 0 ≤ cx ∧ cx ≤ 100 := by have := caseOk_c HOK.out (List.mem_of_getElem? hcx.out); omega
          obtain ⟨r, hr⟩ : ∃ r, resOf (D.ts.map mask) f tn = r := ⟨_, rfl⟩
          rw [hr] at pr hrs
          obtain ⟨ca, hca⟩ : ∃ ca, costOf D.cs (L.take m) = ca := ⟨_, rfl⟩
          rw [hca] at hcs hcb' ⊢
          have HRS := Lib.hid hrs
          have HCS := Lib.hid hcs
          obtain ⟨b0, b1, b2⟩ := cells3 (heap_ext HB3.out HXR3.out)
          have hS : ∀ w', Ext wr w' → w'.cell? ⟨w2.heap.size, 1, none⟩ = some (.slice (some ⟨bt, ot, none⟩) T kt) ∧ w'.cell? ⟨bl, ol + m, none⟩ = some (.int .i64 (tn : Int)) ∧ w'.cell? ⟨bt, ot + tn, none⟩ = some (.slice (some ⟨br, orr, none⟩) n kr) ∧ w'.cell? ⟨br, orr + f, none⟩ = some (.int .i64 (r : Int)) := fun w' hx => ⟨cell_later hx b1, cell_later hx pl, cell_later hx pt, cell_later hx pr⟩
          have HS := Lib.hid hS
          have hS2 : ∀ w', Ext wr w' → w'.cell? ⟨w2.heap.size, 2, none⟩ = some (.slice (some ⟨bc, oc, none⟩) T kc) ∧ w'.cell? ⟨bl, ol + m, none⟩ = some (.int .i64 (tn : Int)) ∧ w'.cell? ⟨bc, oc + tn, none⟩ = some (.int .i64 cx) := fun w' hx => ⟨cell_later hx b2, cell_later hx pl, cell_later hx pc⟩
          have HS2 := Lib.hid hS2
          clear hrs hcs hr hca hrw hx hrow hcx hkr ht htn hqx hS hS2 b0 b1 b2 pl pt pr pc
          go_wp2_with fail
          go_region_held3 (fun w' => w'.cell? ⟨w2.heap.size, 1, none⟩ = some (.slice (some ⟨bt, ot, none⟩) T kt) ∧ w'.cell? ⟨bl, ol + m, none⟩ = some (.int .i64 (tn : Int)) ∧ w'.cell? ⟨bt, ot + tn, none⟩ = some (.slice (some ⟨br, orr, none⟩) n kr) ∧ w'.cell? ⟨br, orr + f, none⟩ = some (.int .i64 (r : Int)))
            (first | with_reducible exact HS.out _ HQX.out | with_reducible exact HS.out _ (HQX.out.trans (Ext.drew _)))
            (fail)
          all_goals
            have hownz := own_ext hown (Ext.drew wq)
            have HQZ := Lib.hid (HQX.out.trans (Ext.drew wq))
            clear hown HQX
            generalize wq.drew = wz at *
            go_wp2_with fail
            go_region_held3 (fun w' => w'.cell? ⟨w2.heap.size, 1, none⟩ = some (.slice (some ⟨bt, ot, none⟩) T kt) ∧ w'.cell? ⟨bl, ol + m, none⟩ = some (.int .i64 (tn : Int)) ∧ w'.cell? ⟨bt, ot + tn, none⟩ = some (.slice (some ⟨br, orr, none⟩) n kr) ∧ w'.cell? ⟨br, orr + f, none⟩ = some (.int .i64 (r : Int)))
              (first | with_reducible exact HS.out _ HQZ.out | with_reducible exact HS.out _ (HQZ.out.trans (Ext.drew _)) | with_reducible exact HS.out _ ((HQZ.out.trans (Ext.drew _)).trans (Ext.alloc _ _)) | with_reducible exact HS.out _ ((HQZ.out.trans (Ext.alloc _ _)).trans (Ext.drew _)) | with_reducible exact HS.out _ (HQZ.out.trans (Ext.alloc _ _)) | with_reducible exact HS.out _ hq1)
              (first
                | (refine step_append_lies _ (by rfl) _ _ 31 (by rfl) wr.heap.size 39 i0 (.agg #[.int .i64 0, .int .i64 0]) 2 16 Tryd.underlying31 hi hz0 hz1 hz2 rfl (by decide) (.slice la m lk) m (pairCells (waysRs (D.ts.map mask) (L.take m) f)) (by rfl) (own_ext (hownz.alloc _) (Ext.drew _)) ⟨wz.heap.size, 0, none⟩ 1 1 [.int .i64 (tn : Int), .int .i64 (r : Int)] (by rfl) (by rfl) (World.news_of_block (cs := #[.int .i64 (tn : Int), .int .i64 (r : Int)]) (heap_ext (heap_alloc_new wz _) (Ext.drew _))) (by simp [Value.oneCell']) (by decide) (by unfold maxLen; omega) (by omega) (by have := HQZ.out.size; simp; omega) _ rfl ?_; intro g cap w1 hown1 hgrow0 hat hlt1; have hq1 := (ext_grown HQZ.out (World.grownBy.trans (grown_drew' _ _) hgrow0) hownz (Nat.le_refl _)); have hq1h := Lib.hid hq1)
                | (refine step_append_lies _ (by rfl) _ _ 31 (by rfl) wr.heap.size 39 i0 (.agg #[.int .i64 0, .int .i64 0]) 2 16 Tryd.underlying31 hi hz0 hz1 hz2 rfl (by decide) (.slice la m lk) m (pairCells (waysRs (D.ts.map mask) (L.take m) f)) (by rfl) ((own_ext hownz (Ext.drew _)).alloc _) ⟨wz.heap.size, 0, none⟩ 1 1 [.int .i64 (tn : Int), .int .i64 (r : Int)] (by rfl) (by rfl) (World.news_of_block (cs := #[.int .i64 (tn : Int), .int .i64 (r : Int)]) (heap_alloc_new wz.drew _)) (by simp [Value.oneCell']) (by decide) (by unfold maxLen; omega) (by omega) (by have := HQZ.out.size; simp; omega) _ rfl ?_; intro g cap w1 hown1 hgrow0 hat hlt1; have hq1 := (ext_grown HQZ.out hgrow0 hownz (Nat.le_refl _)); have hq1h := Lib.hid hq1))
            all_goals
              clear hgrow0 hq1
              go_wp2_with fail
              go_region_held3 (fun w' => w'.cell? ⟨w2.heap.size, 2, none⟩ = some (.slice (some ⟨bc, oc, none⟩) T kc) ∧ w'.cell? ⟨bl, ol + m, none⟩ = some (.int .i64 (tn : Int)) ∧ w'.cell? ⟨bc, oc + tn, none⟩ = some (.int .i64 cx))
                (first | with_reducible exact HS2.out _ hq1h.out | with_reducible exact HS2.out _ (hq1h.out.trans (Ext.drew _)))
                (fail)
              all_goals
                go_wp2_with fail
                go_roundw
                case rel => exact ⟨m + 1, some ⟨g, 0, none⟩, cap, by omega, by go_num, by rw [HCS.out, wrapI _ (by omega) (by omega)], rfl, by rw [HRS.out, pairCells_snoc]; exact own_ext hown1 (Ext.drew _), hq1h.out.trans (Ext.drew _)⟩
                case measure => simp [intOf]; omega
        · obtain rfl : m = L.length := by omega
          rw [List.take_length] at hown ⊢
          obtain ⟨_, _, hpc⟩ := cells_of_own' hown
          have hwl : (waysRs (D.ts.map mask) L f).length = L.length := by simp [waysRs]
          have lft2 := LFT.out wq la lk (waysRs (D.ts.map mask) L f) (HXR3.out.trans HQX.out) hpc (by omega) (fun p hp => by
            obtain ⟨t, ht, rfl⟩ := List.mem_map.1 hp
            refine ⟨by rw [HTE.out]; exact HLI2.out t ht, ?_⟩
            show resOf _ _ _ ≤ 1
            unfold resOf
            split <;> omega)
          rw [hwl, HLF.out] at lft2
          have HLFT := Lib.hid lft2
          have hints : ∀ w' a b k k', IntsAt w' a [(f : Int)] → IntsAt w' b [(f : Int)] → Calls Tryd.prog 19 #[.slice a 1 k, .slice b 1 k'] w' fun e w'' => e = .returned (.bool true) ∧ Ext w' w'' := fun w' a b k k' h1 h2 => by
            have := ints_any a b k k' [(f : Int)] [(f : Int)] w' h1 h2 (by simp)
            simpa using this
          have HINTS := Lib.hid hints
          have hco := HCO.out
          have HQ3 := Lib.hid (HXR3.out.trans HQX.out)
          obtain ⟨ca, hca⟩ : ∃ ca, costOf D.cs L = ca := ⟨_, rfl⟩
          rw [List.take_length] at hcb'
          rw [hca] at hco hcb' ⊢
          have hcw : decide (ca ≤ worst) = true := by simpa using hco
          have hL100 : L.length ≤ 100 := by omega
          obtain ⟨b0, b1, b2⟩ := cells3 (heap_ext HB3.out HQ3.out)
          clear hpc lft2 hints hca hown hwl hqx
          go_wp2_with fail
          refine HLFT.out.mono ?_
          rintro e w6 ⟨a6, k6, rfl, ho6, hx6⟩
          obtain ⟨_, _, hc6⟩ := cells_of_own' ho6
          have HI6 := Lib.hid (ints_of_cells hc6)
          have HX6 := Lib.hid (HQ3.out.trans hx6)
          clear ho6 hc6 hx6 b0 b1 b2
          obtain ⟨b0, b1, b2⟩ := cells3 (heap_ext HB3.out HX6.out)
          go_wp2_with fail
          refine (HINTS.out _ _ _ _ _ (HI6.out.ext (Ext.alloc _ _)) (lit_ints (heap_alloc_new _ _) rfl)).mono ?_
          rintro e w7 ⟨rfl, hx7⟩
          have HX7 := Lib.hid (HX6.out.trans hx7.of_alloc)
          clear hx7
          go_wp2_with fail
          refine (awake_any _ (HT3.out.ext HX7.out)).mono ?_
          rintro e x8 ⟨rfl, hx8⟩
          go_wp2_with fail
          go_ret
          exact ⟨rfl, (HX3.out.trans HX7.out).trans hx8⟩
end Go.Proofs.YtdbendnfgkonbaaDoor
