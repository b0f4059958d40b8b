/- The walk of TestsCovers. -/
import Derived.Test.YtdbendnfgkonbaaDoorMathF
import Derived.Test.YtdbendnfgkonbaaDoorTame
import Derived.Test.YtdbendnfgkonbaaDoorAwake
namespace Go.Proofs.YtdbendnfgkonbaaDoor
open Go.RowKit
set_option linter.unusedVariables false
set_option linter.unusedSimpArgs false

set_option maxRecDepth 20000 in
set_option maxHeartbeats 8000000 in
theorem covers_walk (cv : Value) (C : CaseD) (w : World) (hC : CaseAt w cv C) (htab : TabAt w) :
    Calls Tryd.prog 8 #[cv] w fun e w' => e = .returned (.bool true) ∧ Ext w w' := by
  have hC0 := hC
  obtain ⟨ow, xw, ot, xt, oc, xc, rfl, k1, k2, k3, hw, ht, hc⟩ := hC
  have hC1 := Lib.hid (hC0.ext (Ext.alloc w (.cells #[.slice ow C.ws.length xw, .slice ot C.ts.length xt, .slice oc C.cs.length xc] 25)))
  have HTAB := Lib.hid htab
  clear htab hC0 hw ht hc
  go_enter Tryd.func8, Tryd.ntmps8
  go_wp2_with fail
  refine (tame_any _ C _ hC1.out).mono ?_
  rintro e w2 ⟨aw, at_, ac, kw, kt, kc, rv, rfl, hoc, hx2⟩
  have hok := tameD_ok C
  have hal := tameD_alike C
  have hlen := tameD_len C
  generalize tameD C = D at *
  have HX2 := Lib.hid hx2.of_alloc
  rw [wsize_alloc] at hoc
  have HOC2 := Lib.hid hoc
  have HOK := Lib.hid hok
  have HAL := Lib.hid hal
  obtain ⟨hl10, hlcs, hl4⟩ := hlen
  have HLCS := Lib.hid hlcs
  clear hoc hok hal hlcs hx2
  go_wp2_with fail
  have HOC3 := Lib.hid (HOC2.out.ext (Ext.alloc w2 (.cells #[.slice aw D.ws.length kw, .slice at_ D.ts.length kt, .slice ac D.cs.length kc] 25)))
  have HB3 := Lib.hid (heap_alloc_new w2 (.cells #[.slice aw D.ws.length kw, .slice at_ D.ts.length kt, .slice ac D.cs.length kc] 25))
  have HX3 := Lib.hid (HX2.out.trans (Ext.alloc w2 (.cells #[.slice aw D.ws.length kw, .slice at_ D.ts.length kt, .slice ac D.cs.length kc] 25)))
  generalize w2.alloc (.cells #[.slice aw D.ws.length kw, .slice at_ D.ts.length kt, .slice ac D.cs.length kc] 25) = w3 at *
  refine (Cover_ok _ D _ HOC3.out.case HOK.out HAL.out).mono ?_
  rintro e w4 ⟨v, rfl, hown, hx4⟩
  have hLt := cover_lt HAL.out
  have hLl := cover_len HAL.out
  obtain ⟨L, hL⟩ : ∃ L, coverL (D.ts.map mask) D.ws.length D.ts.length = L := ⟨_, rfl⟩
  rw [hL] at hown hLt hLl
  have HL := Lib.hid hL
  have HLT := Lib.hid hLt
  obtain ⟨la, lk, rfl, hlk, hcells⟩ := cells_of_own hown
  have hli := ints_of_cells hcells
  obtain ⟨N, hN⟩ : ∃ N, L.length = N := ⟨_, rfl⟩
  have HN := Lib.hid hN
  rw [hN] at hLl
  rw [hN]
  have HLI := Lib.hid hli
  have HX34 := Lib.hid hx4
  clear hL hown hLt hlk hcells hli hN hx4
  obtain ⟨b0, b1, b2⟩ := cells3 (heap_ext HB3.out HX34.out)
  go_wp2_with fail
  go_loopw [6] (fun i wr => ∃ k : Nat, k ≤ N + 1 ∧ i = .int .i64 k ∧ Ext w4 wr) (fun i _ => N + 1 - (intOf i).toNat)
  case atStart => exact ⟨0, Nat.zero_le _, rfl, Ext.refl _⟩
  case round =>
    obtain ⟨k, hk, rfl, hxr⟩ := hrel
    obtain ⟨b0, b1, b2⟩ := cells3 (heap_ext HB3.out (HX34.out.trans hxr))
    have HXR := Lib.hid hxr
    clear hxr
    by_cases hlt : k ≤ N
    · go_wp2_with fail
      have hoc0 : OC (wr.alloc (.cells #[.slice aw D.ws.length kw, .slice none 0 0, .slice none 0 0] 25)) (w.heap.size + 1) (subC D (pick L k 0)) aw none none kw 0 0 [] := by
        rw [pick_start]
        exact ⟨own_ext HOC3.out.ow (HX34.out.trans (HXR.out.trans (Ext.alloc _ _))), World.ownsRow_nil _ _ _ _, World.ownsRow_nil _ _ _ _, fun i xs hx => by simp [subC] at hx, fun b _ h => by simp [Value.ownBlock, subC] at h⟩
      have HOC0 := Lib.hid hoc0
      clear hoc0
      go_loopw [8] (fun i wq => ∃ (j n : Nat) (ya yc : Option Addr) (yt yk : Nat) (yv : List Value), j ≤ N ∧ i = .int .i64 j ∧ (pick L k j).length = n ∧ Ext wr wq ∧
          wq.heap[wr.heap.size]? = some (.cells #[.slice aw D.ws.length kw, .slice ya n yt, .slice yc n yk] 25 (0, 0)) ∧ OC wq (w.heap.size + 1) (subC D (pick L k j)) aw ya yc kw yt yk yv ∧
          (∀ g, (Value.slice ya n yt).ownBlock = some g → wr.heap.size + 1 ≤ g) ∧ (∀ g, (Value.slice yc n yk).ownBlock = some g → wr.heap.size + 1 ≤ g)) (fun i _ => N - (intOf i).toNat)
      case atStart => exact ⟨0, 0, none, none, 0, 0, [], Nat.zero_le _, rfl, by rw [pick_start]; rfl, Ext.alloc _ _, heap_alloc_new _ _, HOC0.out, fun g h => by simp [Value.ownBlock] at h, fun g h => by simp [Value.ownBlock] at h⟩
      case round =>
        rename World => wq
        clear HOC0 b0 b1 b2
        obtain ⟨j, n, ya, yc, yt, yk, yv, hj, rfl, hn, hxq, hbq, hocq, hg1, hg2⟩ := hrel
        have hnl := pick_len L k j
        rw [hn, HN.out] at hnl
        have HNN := Lib.hid hn
        have HXQ := Lib.hid hxq
        have HXX := Lib.hid (HX34.out.trans (HXR.out.trans hxq))
        have HBQ := Lib.hid hbq
        have HOCQ := Lib.hid hocq
        have HG1 := Lib.hid hg1
        have HG2 := Lib.hid hg2
        obtain ⟨b0, b1, b2⟩ := cells3 (heap_ext HB3.out HXX.out)
        obtain ⟨y0, y1, y2⟩ := cells3 hbq
        have yf := free_heap hbq
        clear hn hxq hbq hocq hg1 hg2
        by_cases hltj : j < N
        · obtain ⟨lb, lo, xv, rfl, lc, hxv⟩ := (HLI.out.ext (HXR.out.trans HXQ.out)).get (i := j) (by rw [List.length_map, HN.out]; exact hltj)
          have hxL : ∃ x, L[j]? = some x ∧ xv = (x : Int) := by
            have := hxv.out
            rw [List.getElem?_map] at this
            obtain ⟨x, h1, h2⟩ := Option.map_eq_some_iff.1 this
            exact ⟨x, h1, h2.symm⟩
          obtain ⟨x, hxl, rfl⟩ := hxL
          have HXL := Lib.hid hxl
          have hxT := HLT.out x (List.mem_of_getElem? hxl)
          have hx0 : (0 : Int) ≤ (x : Int) := by omega
          obtain ⟨rb, ro, ra, rk, xs, rfl, rc, hrk, hri, hrlt, hxs⟩ := (HOC3.out).getRow hxT
          have rc2 := cell_later HXX.out rc
          have HRI := Lib.hid hri
          have HRLT := Lib.hid hrlt
          clear hxl hxv rc hri hrlt
          have hs1 := HXX.out.size
          have hs2 := (HX34.out.trans HXR.out).size
          have hs3 := (HX3.out).size
          have hs4 := heap_lt HBQ.out
          by_cases hjk : j = k
          · have hne : ((j : Int) != (k : Int)) = false := by rw [bne_eq_false_iff_eq]; omega
            have HJK := Lib.hid hjk
            clear hjk
            go_wp2_with fail
            go_quiet (fail)
            go_wp2_with fail
            go_roundw
            case rel =>
              have hpk : pick L k (j + 1) = pick L k j := by rw [HJK.out]; exact pick_skip L k (by rw [HN.out, ← HJK.out]; exact hltj)
              exact ⟨j + 1, n, ya, yc, yt, yk, yv, by omega, by go_num, by rw [hpk]; exact HNN.out, HXQ.out.trans (Ext.drewN _ _), heap_ext HBQ.out (Ext.drewN _ _), by rw [hpk]; exact HOCQ.out.ext (Ext.drewN _ _), HG1.out, HG2.out⟩
            case measure => simp [intOf]; omega
          · have hne : ((j : Int) != (k : Int)) = true := by rw [bne_iff_ne]; omega
            have hpk := pick_take L k j x HXL.out hjk
            have HPK := Lib.hid hpk
            clear hpk hjk
            have HWITH : Hid (∀ w', Ext wq w' → Calls Tryd.prog 27 #[.agg #[.slice aw D.ws.length kw, .slice ya n yt, .slice yc n yk], .slice ra xs.length rk, .int .i64 1] w' fun e w'' => ∃ gt gc kt' kc' rv',
                e = .returned (.agg #[.slice aw D.ws.length kw, .slice (some ⟨gt, 0, none⟩) (n + 1) kt', .slice (some ⟨gc, 0, none⟩) (n + 1) kc']) ∧
                OC w'' (w.heap.size + 1) (subC D (pick L k (j + 1))) aw (some ⟨gt, 0, none⟩) (some ⟨gc, 0, none⟩) kw kt' kc' rv' ∧ wr.heap.size + 1 ≤ gt ∧ wr.heap.size + 1 ≤ gc ∧ Below (wr.heap.size + 1) w' w'') := Lib.hid fun w' hx' => by
              have hl1 : (subC D (pick L k j)).ts.length = n := by simp [subC, HNN.out]
              have hl2 : (subC D (pick L k j)).cs.length = n := by simp [subC, HNN.out]
              have := (HOCQ.out.ext hx').withD (ra := ra) (xs := xs) (x := 1) (B2 := wr.heap.size + 1) (nw := D.ws.length) (nt := n) (nc := n) (rn := xs.length) (rk := rk)
                ⟨(HRI.out.ext HXX.out).ext hx', fun b o hb => by
                  have hb1 := HRLT.out b o hb
                  have hb2 := hx'.size
                  refine ⟨by omega, fun e => ?_, fun e => ?_⟩
                  · have := HG1.out b (by rw [hl1] at e; exact e.symm)
                    omega
                  · have := HG2.out b (by rw [hl2] at e; exact e.symm)
                    omega⟩ hrk (by have := hx'.size; omega) (by have := hx'.size; omega) (by rw [hl1]; exact HG1.out) (by rw [hl2]; exact HG2.out) rfl hl1.symm hl2.symm rfl (by omega) (by omega)
              have he : (⟨(subC D (pick L k j)).ws, (subC D (pick L k j)).ts ++ [xs], (subC D (pick L k j)).cs ++ [1]⟩ : CaseD) = subC D (pick L k (j + 1)) := by
                rw [HPK.out]
                simp only [subC, List.map_append, List.map_cons, List.map_nil, hxs.out]
              rw [he] at this
              exact this
            have HHW := HWITH
            clear HWITH
            go_wp2_with fail
            go_quiet (fail)
            go_wp2_with fail
            go_region_with (first | (go_at_call 27; refine (HHW.out _ ((Ext.drewN _ _).trans (Ext.drew _))).mono ?_; rintro e w5 ⟨gt, gc, kt', kc', rv', rfl, hoc5, hgt5, hgc5, hb5⟩; have hbx5 := below_heap hb5 (by omega) (heap_ext HBQ.out ((Ext.drewN _ _).trans (Ext.drew _))); obtain ⟨e0, e1, e2⟩ := cells3 hbx5; have ez := free_heap hbx5))
            all_goals
              clear e0 e1 e2 ez
              have HOC5 := Lib.hid hoc5
              have HBX5 := Lib.hid hbx5
              have HB5 := Lib.hid hb5
              clear hoc5 hbx5 hb5
              go_wp2_with fail
              go_roundw
              case rel =>
                obtain ⟨f1, f2⟩ := HOC5.out.boxT3 (b := wr.heap.size) (c0 := aw) (m0 := D.ws.length) (l0 := kw) (c1 := some ⟨gt, 0, none⟩) (m1 := n + 1) (l1 := kt') (c2 := some ⟨gc, 0, none⟩) (m2 := n + 1) (l2 := kc') HBX5.out
                have hxf := (HXQ.out.trans ((Ext.drewN _ _).trans (Ext.drew _))).below HB5.out (by omega)
                exact ⟨j + 1, n + 1, some ⟨gt, 0, none⟩, some ⟨gc, 0, none⟩, kt', kc', rv', by omega, by go_num, by rw [HPK.out, List.length_append, HNN.out]; rfl,
                  ((((OExt.of_ext hxf none none).set (Nat.le_refl _)).set (Nat.le_refl _)).set (Nat.le_refl _)).to (Ext.refl wr) (fun k h => by cases h) (fun k h => by cases h), f2, f1,
                  fun g h => by simp [Value.ownBlock] at h; omega, fun g h => by simp [Value.ownBlock] at h; omega⟩
              case measure => simp [intOf]; omega
        · obtain rfl : j = N := by omega
          have hplt := pick_lt HLT.out k j
          have hlaw := covers_law HAL.out L HL.out k (by rw [HN.out]; exact hlt)
          rw [HN.out] at hlaw
          have hsok := subC_ok HOK.out (pick L k j) hplt (by rw [HNN.out]; omega)
          have hl1 : (subC D (pick L k j)).ts.length = n := by simp [subC, HNN.out]
          have hl2 : (subC D (pick L k j)).cs.length = n := by simp [subC, HNN.out]
          have hcase := HOCQ.out.case
          rw [hl1, hl2] at hcase
          have hcase2 : CaseAt wq (.agg #[.slice aw D.ws.length kw, .slice ya n yt, .slice yc n yk]) (subC D (pick L k j)) := hcase
          have halike : Hid (∀ w', Ext wq w' → Calls Tryd.prog 12 #[.agg #[.slice aw D.ws.length kw, .slice ya n yt, .slice yc n yk]] w' fun e w'' => ∃ a A kk, e = .returned (.tuple #[.slice a A kk, .int .i64 0]) ∧ (A = 0 ↔ k = j) ∧ Ext w' w'') := Lib.hid fun w' hx' =>
            (Alike_ok _ _ w' (hcase2.ext hx') hsok).mono fun e w'' ⟨v, h1, h2, h3⟩ => by
              obtain ⟨a, kk, rfl, _, _⟩ := cells_of_own h2
              exact ⟨a, _, kk, h1, hlaw, h3⟩
          have HHA := halike
          clear halike hcase hcase2 hl1 hl2 hsok hplt hlaw
          go_wp2_with fail
          refine (HHA.out _ (by first | exact Ext.refl _ | exact Ext.drew _)).mono ?_
          rintro e w6 ⟨a6, A, k6, rfl, hA, hx6⟩
          have HX6 := Lib.hid hx6
          clear hx6
          by_cases hkj : k = j
          · have hA0 := hA.2 hkj
            subst hA0
            clear hA
            subst hkj
            go_wp2_with fail
            go_roundw
            case rel => exact ⟨k + 1, by omega, by go_num, HXR.out.trans (HXQ.out.trans HX6.out)⟩
            case measure => simp [intOf] <;> omega
          · have hA0 : ¬ A = 0 := fun h => hkj (hA.1 h)
            have hA1 : ((A : Int) == 0) = false := by rw [beq_eq_false_iff_ne]; omega
            have hk1 : ((k : Int) == (j : Int)) = false := by rw [beq_eq_false_iff_ne]; omega
            clear hA hA0 hkj
            go_wp2_with fail
            go_roundw
            case rel => exact ⟨k + 1, by omega, by go_num, HXR.out.trans (HXQ.out.trans HX6.out)⟩
            case measure => simp [intOf]; omega
    · go_wp2_with fail
      refine (awake_any _ (HTAB.out.ext (HX3.out.trans (HX34.out.trans HXR.out)))).mono ?_
      rintro e w6 ⟨rfl, hx6⟩
      go_wp2_with fail
      go_ret
      exact ⟨rfl, (HX3.out.trans (HX34.out.trans HXR.out)).trans hx6⟩
end Go.Proofs.YtdbendnfgkonbaaDoor
