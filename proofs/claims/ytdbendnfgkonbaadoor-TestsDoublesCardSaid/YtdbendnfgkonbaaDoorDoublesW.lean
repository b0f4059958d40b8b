/- The walk of TestsDoubles. -/
import Derived.Test.YtdbendnfgkonbaaDoorDoublesM
import Derived.Test.YtdbendnfgkonbaaDoorTame
import Derived.Test.YtdbendnfgkonbaaDoorAwake
namespace Go.Proofs.YtdbendnfgkonbaaDoor
open Go.RowKit
set_option linter.unusedVariables false
set_option linter.unusedSimpArgs false

set_option maxRecDepth 20000 in
set_option maxHeartbeats 8000000 in
theorem doubles_walk (cv : Value) (C : CaseD) (w : World) (hC : CaseAt w cv C) (htab : TabAt w) :
    Calls Tryd.prog 7 #[cv] w fun e w' => e = .returned (.bool true) ∧ Ext w w' := by
  have hC0 := hC
  obtain ⟨ow, xw, ot, xt, oc, xc, rfl, k1, k2, k3, hw, ht, hc⟩ := hC
  have hC1 := Lib.hid (hC0.ext (Ext.alloc w (.cells #[.slice ow C.ws.length xw, .slice ot C.ts.length xt, .slice oc C.cs.length xc] 25)))
  have HTAB := Lib.hid htab
  clear htab hC0 hw ht hc
  go_enter Tryd.func7, Tryd.ntmps7
  go_wp2_with fail
  refine (tame_any _ C _ hC1.out).mono ?_
  rintro e w2 ⟨aw, at_, ac, kw, kt, kc, rv, rfl, hoc, hx2⟩
  have hok := tameD_ok C
  have hal := tameD_alike C
  have hlen := tameD_len C
  generalize tameD C = D at *
  have HX2 := Lib.hid hx2.of_alloc
  rw [wsize_alloc] at hoc
  obtain ⟨hl10, hlcs, hl4⟩ := hlen
  have HLCS := Lib.hid hlcs
  have hn := caseOk_n hok
  obtain ⟨g, rfl, hg1, hg2⟩ := own_at hoc.oc (by omega)
  have hs2 := hx2.of_alloc.size
  obtain ⟨n, hnE⟩ : ∃ n, D.ws.length = n := ⟨_, rfl⟩
  obtain ⟨T, hTE⟩ : ∃ T, D.cs.length = T := ⟨_, rfl⟩
  have hTE2 : D.ts.length = T := by omega
  have HOC2 := Lib.hid hoc
  have HOK := Lib.hid hok
  have HAL := Lib.hid hal
  rw [hnE] at hn
  rw [hTE2] at hl10 hl4
  rw [hnE, hTE, hTE2]
  have HN := Lib.hid hnE
  have HT := Lib.hid hTE
  have HT2 := Lib.hid hTE2
  clear hoc hok hal hlcs hx2 hnE hTE hTE2
  go_wp2_with fail
  have HOC3 := Lib.hid (HOC2.out.ext (Ext.alloc w2 (.cells #[.slice aw n kw, .slice at_ T kt, .slice (some ⟨g, 0, none⟩) T kc] 25)))
  have HB3 := Lib.hid (heap_alloc_new w2 (.cells #[.slice aw n kw, .slice at_ T kt, .slice (some ⟨g, 0, none⟩) T kc] 25))
  have HX3 := Lib.hid (HX2.out.trans (Ext.alloc w2 (.cells #[.slice aw n kw, .slice at_ T kt, .slice (some ⟨g, 0, none⟩) T kc] 25)))
  generalize w2.alloc (.cells #[.slice aw n kw, .slice at_ T kt, .slice (some ⟨g, 0, none⟩) T kc] 25) = w3 at *
  go_loopw [4] (fun i wr => ∃ t : Nat, t ≤ T ∧ i = .int .i64 t ∧ Ext w wr ∧ wr.heap[w2.heap.size]? = some (.cells #[.slice aw n kw, .slice at_ T kt, .slice (some ⟨g, 0, none⟩) T kc] 25 (0, 0)) ∧
      OC wr (w.heap.size + 1) ⟨D.ws, D.ts, onesTo D.cs t⟩ aw at_ (some ⟨g, 0, none⟩) kw kt kc rv) (fun i _ => T - (intOf i).toNat)
  case atStart => exact ⟨0, Nat.zero_le _, rfl, HX3.out, HB3.out, HOC3.out⟩
  case round =>
    obtain ⟨t, ht, rfl, hx, hb, hoc⟩ := hrel
    obtain ⟨b0, b1, b2⟩ := cells3 hb
    have HX := Lib.hid hx
    have HB := Lib.hid hb
    have HOC := Lib.hid hoc
    have hol : (onesTo D.cs t).length = T := by rw [onesTo_len _ _ (by rw [HT.out]; exact ht), HT.out]
    have HOL := Lib.hid hol
    clear hx hb hoc hol
    by_cases hlt : t < T
    · have hf : wr.frozen? ⟨g, t, none⟩ = false := by
        have := HOC.out.oc.frozenAt t
        simpa using this
      obtain ⟨v0, hv0⟩ : ∃ v, wr.cell? ⟨g, t, none⟩ = some v := by
        obtain ⟨_, _, hc⟩ := cells_of_own' HOC.out.oc
        obtain ⟨b, o, he, hcc⟩ := hc t _ (List.getElem?_eq_getElem (by simp [intVals]; rw [HOL.out]; exact hlt))
        cases he
        exact ⟨_, by simpa using hcc⟩
      go_wp2_with fail
      go_roundw
      case rel =>
        refine ⟨t + 1, by omega, by go_num, ?_, heap_set_other HB.out (by simp; omega), ?_⟩
        · exact ((OExt.of_ext HX.out none none).set (by omega)).to (Ext.refl w) (fun k h => by cases h) (fun k h => by cases h)
        · have := HOC.out.setC (i := t) (x := 1)
          dsimp only at this
          rw [onesTo_set _ _ (by rw [HT.out]; exact hlt)] at this
          exact this
      case measure => simp [intOf]; omega
    · obtain rfl : t = T := by omega
      have hcs : onesTo D.cs t = List.replicate t 1 := by
        unfold onesTo
        rw [List.drop_of_length_le (by rw [HT.out]; exact Nat.le_refl _), List.append_nil]
      have hoc := HOC.out
      rw [hcs] at hoc
      have hok1 : caseOk ⟨D.ws, D.ts, List.replicate t 1⟩ = true := costs_ok HOK.out _ (by rw [HT.out]; simp) fun x hx => by rw [List.eq_of_mem_replicate hx]; omega
      have hone : ∀ k, k < D.ts.length → (List.replicate t (1 : Int)).getD k 0 = 1 := fun k hk => by
        rw [HT2.out] at hk
        simp [List.getD, hk]
      have hlaw := fun d hd => doubles_law (D := ⟨D.ws, D.ts, List.replicate t 1⟩) hok1 HAL.out hone d hd
      have hcase := hoc.case
      dsimp only at hcase hlaw
      rw [HN.out, HT2.out, List.length_replicate] at hcase
      rw [HN.out] at hlaw
      have HLAW := Lib.hid hlaw
      have HCASE := Lib.hid hcase
      have HOK1 := Lib.hid hok1
      clear hcs hoc hok1 hone hlaw hcase
      go_wp2_with fail
      go_loopw [6] (fun i wq => wq = wr ∧ ∃ d : Nat, d ≤ 10 ∧ i = .int .i64 d ∧ Hid (∀ j, j < d → 2 ^ j < n)) (fun i _ => 10 - (intOf i).toNat)
      case atStart => exact ⟨rfl, 0, Nat.zero_le _, rfl, Lib.hid fun j hj => by omega⟩
      case round =>
        rename World => wq
        obtain ⟨rfl, d, hd, rfl, HD⟩ := hrel
        obtain ⟨hn1, hn10⟩ := hn
        have hp0 : 0 < (2 : Nat) ^ d := Nat.two_pow_pos d
        have hpd : (2 : Nat) ^ d ≤ 2 ^ 10 := Nat.pow_le_pow_right (by omega) hd
        obtain ⟨P, hP, hPE⟩ : ∃ P : Nat, IntKind.i64.wrap (2 ^ d) = (P : Int) ∧ 2 ^ d = P := by
          refine ⟨2 ^ d, ?_, rfl⟩
          have : ((2 : Int) ^ d) = ((2 ^ d : Nat) : Int) := by simp
          rw [this, IntKind.wrap_i64]
          generalize 2 ^ d = p at *
          omega
        have HPE := Lib.hid hPE
        clear hPE hpd hp0
        by_cases hlt2 : P < n
        · have hd9 : d < 10 := by
            refine Classical.byContradiction fun hd9 => ?_
            obtain rfl : d = 10 := by omega
            have := HPE.out
            omega
          go_wp2_with fail
          go_roundw
          case rel =>
            refine ⟨trivial, d + 1, by omega, by go_num, Lib.hid fun j hj => ?_⟩
            rcases Nat.lt_or_eq_of_le (Nat.le_of_lt_succ hj) with h | rfl
            · exact HD.out j h
            · rw [HPE.out]; exact hlt2
          case measure => simp [intOf]; omega
        · have hlaw := HLAW.out d HD.out
          have hbest := Worst_ok _ _ _ HCASE.out (HTAB.out.ext HX.out) HOK1.out HAL.out
          obtain ⟨c, hc⟩ : ∃ c, bestCost ⟨D.ws, D.ts, List.replicate t 1⟩ (worstM ⟨D.ws, D.ts, List.replicate t 1⟩) = c := ⟨_, rfl⟩
          obtain ⟨m, hm⟩ : ∃ m, (coverL (D.ts.map mask) n D.ts.length).length = m := ⟨_, rfl⟩
          rw [hc, hm] at hlaw
          rw [hc] at hbest
          have HBEST := Lib.hid hbest
          have HM := Lib.hid hm
          obtain ⟨i1, i2, i3, i4⟩ := hlaw
          clear hbest hm hc
          go_wp2_with fail
          refine HBEST.out.mono ?_
          rintro e w5 ⟨v5, rfl, _, hx5⟩
          obtain ⟨b0, b1, b2⟩ := cells3 (heap_ext HB.out hx5)
          have HX5 := Lib.hid hx5
          clear hx5
          go_wp2_with fail
          refine (Cover_ok _ _ _ (HCASE.out.ext HX5.out) HOK1.out HAL.out).mono ?_
          rintro e w6 ⟨v6, rfl, hown6, hx6⟩
          dsimp only at hown6
          rw [HN.out, HM.out] at hown6
          obtain ⟨a6, k6, rfl, _, _⟩ := cells_of_own hown6
          have HX6 := Lib.hid (HX.out.trans (HX5.out.trans hx6))
          clear hx6 hown6
          go_wp2_with fail
          refine (awake_any _ (HTAB.out.ext HX6.out)).mono ?_
          rintro e w7 ⟨rfl, hx7⟩
          go_wp2_with fail
          go_ret
          exact ⟨rfl, HX6.out.trans hx7⟩
end Go.Proofs.YtdbendnfgkonbaaDoor
