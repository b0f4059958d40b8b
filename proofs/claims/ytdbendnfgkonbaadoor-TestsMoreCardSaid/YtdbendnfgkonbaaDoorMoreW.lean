/- The walk of TestsMore. -/
import Derived.Test.YtdbendnfgkonbaaDoorMoreA
namespace Go.Proofs.YtdbendnfgkonbaaDoor
open Go.RowKit
set_option linter.unusedVariables false
set_option linter.unusedSimpArgs false

def cost20 (c : Int) : Int := 1 + modI (c - 1) 20

set_option maxRecDepth 100000 in
set_option maxHeartbeats 16000000 in
theorem more_walk (cv : Value) (C : CaseD) (ra : Option Addr) (rn rk : Nat) (R : List Int) (o0 o1 : Int) (w : World) (hC : CaseAt w cv C) (hrn : rn = R.length) (hR : IntsAt w ra R) (htab : TabAt w) :
    Calls Tryd.prog 5 #[cv, .slice ra rn rk, .agg #[.int .i64 o0, .int .i64 o1]] w fun e w' => e = .returned (.bool true) ∧ Ext w w' := by
  have hC0 := hC
  obtain ⟨ow, xw, ot, xt, oc, xc, rfl, k1, k2, k3, hw, ht, hc⟩ := hC
  have hxb : Ext w ((w.alloc (.cells #[.slice ow C.ws.length xw, .slice ot C.ts.length xt, .slice oc C.cs.length xc] 25)).alloc (.cells #[.int .i64 o0, .int .i64 o1] 39)) := (Ext.alloc _ _).trans (Ext.alloc _ _)
  have hof := heap_alloc_new (w.alloc (.cells #[.slice ow C.ws.length xw, .slice ot C.ts.length xt, .slice oc C.cs.length xc] 25)) (.cells #[.int .i64 o0, .int .i64 o1] 39)
  rw [wsize_alloc] at hof
  have HXB := Lib.hid hxb
  have HOF := Lib.hid hof
  have HC0 := Lib.hid hC0
  have HTAB := Lib.hid htab
  have HR := Lib.hid hR
  have HRN := Lib.hid hrn
  clear htab hC0 hw ht hc hxb hof hR hrn
  go_enter Tryd.func5, Tryd.ntmps5
  go_wp2_with fail
  generalize (w.alloc (.cells #[.slice ow C.ws.length xw, .slice ot C.ts.length xt, .slice oc C.cs.length xc] 25)).alloc (.cells #[.int .i64 o0, .int .i64 o1] 39) = wb at *
  refine (tame_any _ C wb (HC0.out.ext HXB.out)).mono ?_
  rintro e w2 ⟨aw, at_, ac, kw, kt, kc, rv, rfl, hoc, hx2⟩
  have hok := tameD_ok C
  have hal := tameD_alike C
  have hlen := tameD_len C
  generalize tameD C = D at *
  have HX2 := Lib.hid (HXB.out.trans hx2)
  have HOF2 := Lib.hid (heap_ext HOF.out hx2)
  obtain ⟨hl10, hlcs, hl4⟩ := hlen
  have hn := caseOk_n hok
  obtain ⟨g, rfl, hg1, hg2⟩ := own_at hoc.oc (by omega)
  have hs1 := HXB.out.size
  have hs2 := HX2.out.size
  obtain ⟨n, hnE⟩ : ∃ n, D.ws.length = n := ⟨_, rfl⟩
  obtain ⟨T, hTE⟩ : ∃ T, D.cs.length = T := ⟨_, rfl⟩
  have hTE2 : D.ts.length = T := by omega
  have HOC2 := Lib.hid hoc
  have HOK := Lib.hid hok
  have HAL := Lib.hid hal
  rw [hnE] at hn
  rw [hTE2] at hl10 hl4
  rw [hnE, hTE, hTE2]
  have HN := Lib.hid hnE
  have HT := Lib.hid hTE
  have HT2 := Lib.hid hTE2
  obtain ⟨hn1, hn10⟩ := hn
  clear hoc hok hal hlcs hx2 hnE hTE hTE2
  go_wp2_with fail
  have HB3 : Hid (Boxed w (w2.alloc (.cells #[.slice aw n kw, .slice at_ T kt, .slice (some ⟨g, 0, none⟩) T kc] 25)) wb.heap.size w2.heap.size D n T aw at_ (some ⟨g, 0, none⟩) kw kt kc rv) :=
    Lib.hid ⟨HX2.out.trans (Ext.alloc _ _), heap_alloc_new _ _, HOC2.out.ext (Ext.alloc _ _), HN.out, HT2.out, HT.out, by omega, by omega⟩
  have HOF3 := Lib.hid (heap_alloc (o' := .cells #[.slice aw n kw, .slice at_ T kt, .slice (some ⟨g, 0, none⟩) T kc] 25) HOF2.out)
  generalize w2.alloc (.cells #[.slice aw n kw, .slice at_ T kt, .slice (some ⟨g, 0, none⟩) T kc] 25) = w3 at *
  obtain ⟨bx, hbx⟩ : ∃ bx, w2.heap.size = bx := ⟨_, rfl⟩
  rw [hbx] at HB3 ⊢
  have hgb : g ≠ bx := by omega
  have hwg : w.heap.size ≤ g := by omega
  have hwb : w.heap.size < bx := by omega
  have hof2 := heap_lt HOF.out
  have hwg2 : w.heap.size + 1 < g := by omega
  clear hbx hg1 hg2 hs1 hs2
  obtain ⟨c0, c1, c2⟩ := cells3 HB3.out.box
  go_wp2_with fail
  clear c0 c1 c2
  go_loopw [9] (fun i wr => ∃ t : Nat, t ≤ T ∧ i = .int .i64 t ∧ wr.heap[w.heap.size + 1]? = some (.cells #[.int .i64 o0, .int .i64 o1] 39 (0, 0)) ∧
      Boxed w wr wb.heap.size bx ⟨D.ws, D.ts, updTo cost20 D.cs t⟩ n T aw at_ (some ⟨g, 0, none⟩) kw kt kc rv) (fun i _ => T - (intOf i).toNat)
  case atStart => exact ⟨0, Nat.zero_le _, rfl, HOF3.out, by rw [updTo_zero]; exact HB3.out⟩
  case round =>
    obtain ⟨t, ht, rfl, hof, hb⟩ := hrel
    have HB := Lib.hid hb
    have HOF4 := Lib.hid hof
    obtain ⟨c0, c1, c2⟩ := cells3 hb.box
    clear hb hof
    by_cases hlt : t < T
    · obtain ⟨c, cc, cf, hct⟩ := HB.out.cost hlt
      have hct2 : D.cs[t]? = some c := by rw [← hct]; exact (updTo_get _ _ _ (by rw [HT.out]; exact hlt)).symm
      have hc1 := caseOk_c HOK.out (List.mem_of_getElem? hct2)
      have HCT := Lib.hid hct2
      obtain ⟨hc1, hc2⟩ := hc1
      have i0 : (0 : Int) ≤ (t : Int) := by omega
      have i1 : (t : Int) < (T : Int) := by omega
      obtain ⟨q, hq⟩ : ∃ q, modI (c - 1) 20 = q := ⟨_, rfl⟩
      have hqb := modI_bd (c - 1) (n := 20) (by decide)
      rw [hq] at hqb
      have HQ := Lib.hid hq
      obtain ⟨hq1, hq2⟩ := hqb
      have e1 : IntKind.i64.wrap (c - 1) = c - 1 := IntWalk.i64_in _ (by omega)
      have e2 : IntKind.i64.wrap (1 + q) = 1 + q := IntWalk.i64_in _ (by omega)
      clear hct hct2 hq
      go_wp2_with fail
      -- DEV BEGIN
      as_aux_lemma =>
        go_region_law (first | (rw [if_pos (by rfl)]; go_simp; go_at_call 25; (with_reducible refine (mod_any (c - 1) 20 _ (by decide) (by decide)).mono ?_); rintro e w' ⟨rfl, rfl⟩; rw [HQ.out]))
        all_goals
          go_wp2_with fail
          go_roundw
          case rel =>
            have hnew := (HB.out.setC t (1 + q) hgb hwg).later (Ext.drew _)
            dsimp only at hnew
            have hs := updTo_set cost20 D.cs t c HCT.out
            have hq' : cost20 c = 1 + q := by unfold cost20; rw [HQ.out]
            rw [hq'] at hs
            rw [hs] at hnew
            exact ⟨t + 1, by omega, by go_num, heap_ext (heap_set_other HOF4.out (by simp; omega)) (Ext.drew _), hnew⟩
          case measure => simp [intOf]; omega
      -- DEV END
    · obtain rfl : t = T := by omega
      have hX : updTo cost20 D.cs t = D.cs.map cost20 := by rw [← HT.out]; exact updTo_all _ _
      have hb := HB.out
      rw [hX] at hb
      have HBX := Lib.hid hb
      have hxc : ∀ x ∈ D.cs.map cost20, 1 ≤ x ∧ x ≤ 20 := fun x hx => by
        obtain ⟨y, _, rfl⟩ := List.mem_map.1 hx
        have := modI_bd (y - 1) (n := 20) (by decide)
        unfold cost20
        omega
      have hokX : caseOk ⟨D.ws, D.ts, D.cs.map cost20⟩ = true := costs_ok HOK.out _ (by simp) fun x hx => by have := hxc x hx; omega
      have HOKX := Lib.hid hokX
      have HXC := Lib.hid hxc
      obtain ⟨X, hXE⟩ : ∃ X : CaseD, (⟨D.ws, D.ts, D.cs.map cost20⟩ : CaseD) = X := ⟨_, rfl⟩
      have hXw : X.ws.length = n := by rw [← hXE]; exact HN.out
      have hXt : X.ts.length = t := by rw [← hXE]; exact HT2.out
      have hXc : X.cs.length = t := by rw [← hXE]; simp [HT.out]
      have hXC2 : ∀ x ∈ X.cs, 1 ≤ x ∧ x ≤ 20 := by rw [← hXE]; exact hxc
      have hXA : alikeL (X.ts.map mask) X.ws.length = [] := by rw [← hXE]; exact HAL.out
      rw [hXE] at HBX HOKX
      have HXW := Lib.hid hXw
      have HXT := Lib.hid hXt
      have HXCL := Lib.hid hXc
      have HXC2 := Lib.hid hXC2
      have HXA := Lib.hid hXA
      clear hX hb hxc hokX HXC hXw hXt hXc hXC2 hXA hXE HB HB3
      obtain ⟨i1, hi1, hz10, hz11, hz12⟩ := info_parts info_int
      have hmk : ∀ w : World, (Instr.makeSlice 22 (.int .i64 (n : Int)) (.int .i64 (n : Int))).run Tryd.prog w = .ok (.slice (some ⟨w.heap.size, 0, none⟩) n n) (w.alloc (.cells (madeCells #[.int .i64 0] n) 3)) := by
        intro w
        have := run_make (P := Tryd.prog) w 22 3 i1 (.int .i64 0) Tryd.underlying22 hi1 hz10 .i64 .i64 n n (by omega) (Int.le_refl _) (by rw [hz12]; omega) (by omega)
        simpa [hz11, Value.cells] using this
      go_wp2_with fail
      clear c0 c1 c2
      obtain ⟨wq, hwq⟩ : ∃ wq, wq = wr := ⟨_, rfl⟩
      subst hwq
      go_loopw [11] (fun i w2 => ∃ j : Nat, j ≤ n ∧ i = .int .i64 j ∧ Fill wq w2 (fun i => modI (R.getD i 0) 2) n j) (fun i _ => n - (intOf i).toNat)
      case atStart => exact ⟨0, Nat.zero_le _, rfl, Fill.start wq _ n hn10⟩
      case round =>
        obtain ⟨j, hj, rfl, hfill⟩ := hrel
        have hfx := hfill.ext
        by_cases hltj : j < n
        · obtain ⟨v0, hv0⟩ := hfill.cell hj hltj
          have hfr := hfill.free j
          have i2 : (0 : Int) ≤ (j : Int) := by omega
          have i3 : (j : Int) < (n : Int) := by omega
          have hats := at_any ra rk R j wr ((HR.out.ext HBX.out.ext).ext hfx)
          have hmd := mod_any (R.getD j 0) 2 wr (by decide) (by decide)
          obtain ⟨q, hq⟩ : ∃ q, modI (R.getD j 0) 2 = q := ⟨_, rfl⟩
          obtain ⟨y, hy⟩ : ∃ y, R.getD j 0 = y := ⟨_, rfl⟩
          rw [hq] at hmd
          rw [hy] at hats hmd
          rw [← HRN.out] at hats
          have HAT := Lib.hid hats
          have hset := hfill.set hltj
          rw [hq] at hset
          have HSET := Lib.hid hset
          have HMD := Lib.hid hmd
          clear hset hmd hq hy hfill hfx hats
          -- DEV BEGIN
          as_aux_lemma =>
            go_wp2_with (first | (go_at_call 26; refine HAT.out.mono ?_; rintro e w' ⟨rfl, rfl⟩) | (go_at_call 25; refine HMD.out.mono ?_; rintro e w' ⟨rfl, rfl⟩))
            go_roundw
            case rel => exact ⟨j + 1, by omega, by go_num, HSET.out⟩
            case measure => simp [intOf]; omega
          -- DEV END
        · obtain rfl : j = n := by omega
          have hrow := hfill.row
          have hrl : ((List.range j).map fun i => modI (R.getD i 0) 2).length = j := by simp
          have hrb : badRow ((List.range j).map fun i => modI (R.getD i 0) 2) = false := badRow_of _ _ fun i => by have := modI_bd (R.getD i 0) (n := 2) (by decide); omega
          generalize (List.range j).map (fun i => modI (R.getD i 0) 2) = M at hrow hrl hrb
          have HROWLT := Lib.hid (hfill.own.lt _ rfl).2
          have HRB : Hid (M.length = X.ws.length ∧ badRow M = false) := Lib.hid ⟨by rw [HXW.out]; exact hrl, hrb⟩
          have HROW := Lib.hid hrow
          have HRL := Lib.hid hrl
          have HBY := Lib.hid (HBX.out.later hfx)
          have HOF5 := Lib.hid (heap_ext HOF4.out hfx)
          have HQB := Lib.hid (heap_lt HBX.out.box)
          clear hrow hrl hrb hfill hfx
          have hownC : Hid (∀ w', Ext wr w' → Calls Tryd.prog 10 #[.agg #[.slice aw j kw, .slice at_ t kt, .slice (some ⟨g, 0, none⟩) t kc]] w' fun e w'' => ∃ a1 a2 a3 k1 k2 k3 rv',
              e = .returned (.agg #[.slice a1 j k1, .slice a2 t k2, .slice a3 t k3]) ∧ Hid (OC w'' w'.heap.size X a1 a2 a3 k1 k2 k3 rv') ∧ Ext w' w'' ∧ Ext wr w'') := Lib.hid fun w' hx' => by
            have h1 := own_any aw at_ (some ⟨g, 0, none⟩) kw kt kc X w' ((HBY.out.oc.whole HOKX.out).ext hx')
            rw [ownD_ok HOKX.out, HXW.out, HXT.out, HXCL.out] at h1
            exact h1.mono fun e w'' ⟨a1, a2, a3, k1, k2, k3, rv', he, ho, hx⟩ => ⟨a1, a2, a3, k1, k2, k3, rv', he, Lib.hid ho, hx, hx'.trans hx⟩
          obtain ⟨q, hq⟩ : ∃ q, modI o0 20 = q := ⟨_, rfl⟩
          have hqb := modI_bd o0 (n := 20) (by decide)
          rw [hq] at hqb
          have HQ := Lib.hid hq
          obtain ⟨hq1, hq2⟩ := hqb
          have e2 : IntKind.i64.wrap (1 + q) = 1 + q := IntWalk.i64_in _ (by omega)
          have hszr : wq.heap.size < wr.heap.size := HROWLT.out
          have hwithC : Hid (∀ w0 w1 w' a1 a2 a3 k1 k2 k3 rv', OC w1 w0.heap.size X a1 a2 a3 k1 k2 k3 rv' → Ext wr w0 → Ext w0 w1 → Ext w1 w' → Calls Tryd.prog 27 #[.agg #[.slice a1 j k1, .slice a2 t k2, .slice a3 t k3], .slice (some ⟨wq.heap.size, 0, none⟩) j j, .int .i64 (1 + q)] w' fun e w'' =>
              ∃ gt gc kt' kc' rv2, e = .returned (.agg #[.slice a1 j k1, .slice (some ⟨gt, 0, none⟩) (t + 1) kt', .slice (some ⟨gc, 0, none⟩) (t + 1) kc']) ∧
                Hid (OC w'' w0.heap.size (moreC X M (1 + q)) a1 (some ⟨gt, 0, none⟩) (some ⟨gc, 0, none⟩) k1 kt' kc' rv2) ∧ Hid (OExt w' w'' (Value.slice a2 t k2).ownBlock (Value.slice a3 t k3).ownBlock) ∧ Ext wr w'') := Lib.hid fun w0 w1 w' a1 a2 a3 k1 k2 k3 rv' ho h0 h1 hx' => by
            have hoff : RowOff w' (some ⟨wq.heap.size, 0, none⟩) M (Value.slice a2 X.ts.length k2).ownBlock (Value.slice a3 X.cs.length k3).ownBlock := by
              refine ⟨HROW.out.ext ((h0.trans h1).trans hx'), fun b o hb => ?_⟩
              cases hb
              have s1 := (h0.trans h1).size
              have s2 := hx'.size
              have s3 := h0.size
              refine ⟨by omega, fun e => ?_, fun e => ?_⟩
              · have := (ho.ot.lt _ e.symm).1; omega
              · have := (ho.oc.lt _ e.symm).1; omega
            have := (ho.ext hx').withE (x := 1 + q) hoff (rk := j) (by rw [HRL.out]; exact Nat.le_refl _) (Nat.le_trans h1.size hx'.size) HXW.out HXT.out HXCL.out HRL.out (by omega) (by omega)
            exact this.mono fun e w'' ⟨gt, gc, kt', kc', rv2, he, hoc, hoe⟩ => ⟨gt, gc, kt', kc', rv2, he, Lib.hid hoc, Lib.hid hoe, hoe.to ((h0.trans h1).trans hx') (fun k hk => by
                have := (ho.ot.lt k (by rw [HXT.out]; exact hk)).1
                have := h0.size
                omega) (fun k hk => by
                have := (ho.oc.lt k (by rw [HXCL.out]; exact hk)).1
                have := h0.size
                omega)⟩
          obtain ⟨c0, c1, c2⟩ := cells3 HBY.out.box
          have co := cell_heap HOF5.out 0
          have hbr := heap_lt HBY.out.box
          have lm1 : (moreC X M (1 + q)).ts.length = t + 1 := by show (X.ts ++ [M]).length = t + 1; rw [List.length_append, HXT.out]; rfl
          have lm2 : (moreC X M (1 + q)).cs.length = t + 1 := by show (X.cs ++ [1 + q]).length = t + 1; rw [List.length_append, HXCL.out]; rfl
          have hwr := HBY.out.ext
          have hwrs := hwr.size
          have HLM1 := Lib.hid lm1
          have HLM2 := Lib.hid lm2
          have HWR := Lib.hid hwr
          clear lm1 lm2 hwr
          go_upto_region 12 with fail
          go_cut [12] (fun s12 wx => ∃ (yb : Nat) (a1 a2 a3 : Option Addr) (k1 k2 k3 : Nat) (yv : List Value), s12 = .pointer (some ⟨yb, 0, none⟩) ∧ Ext wr wx ∧ Boxed w wx wr.heap.size yb (moreC X M (1 + q)) j (t + 1) a1 a2 a3 k1 k2 k3 yv)
          case first =>
            -- DEV BEGIN
            as_aux_lemma =>
              have dS : wr.drew.cell? ⟨bx, 0, none⟩ = some (.slice aw j kw) ∧ wr.drew.cell? ⟨bx, 1, none⟩ = some (.slice at_ t kt) ∧ wr.drew.cell? ⟨bx, 2, none⟩ = some (.slice (some ⟨g, 0, none⟩) t kc) ∧ wr.drew.cell? ⟨w.heap.size + 1, 0, none⟩ = some (.int .i64 o0) := ⟨c0, c1, c2, by simpa using co⟩
              have hS : ∀ w', Ext wr w' → w'.cell? ⟨bx, 0, none⟩ = some (.slice aw j kw) ∧ w'.cell? ⟨bx, 1, none⟩ = some (.slice at_ t kt) ∧ w'.cell? ⟨bx, 2, none⟩ = some (.slice (some ⟨g, 0, none⟩) t kc) ∧ w'.cell? ⟨w.heap.size + 1, 0, none⟩ = some (.int .i64 o0) :=
                fun w' hx => ⟨cell_later hx c0, cell_later hx c1, cell_later hx c2, cell_later hx (by simpa using co)⟩
              have HS := Lib.hid hS
              clear hS
              go_region_held3 (fun w' => w'.cell? ⟨bx, 0, none⟩ = some (.slice aw j kw) ∧ w'.cell? ⟨bx, 1, none⟩ = some (.slice at_ t kt) ∧ w'.cell? ⟨bx, 2, none⟩ = some (.slice (some ⟨g, 0, none⟩) t kc) ∧ w'.cell? ⟨w.heap.size + 1, 0, none⟩ = some (.int .i64 o0))
                (first | with_reducible exact dS | with_reducible exact HS.out _ ((Ext.alloc _ _).trans (Ext.drew _)) | with_reducible exact HS.out _ hB | with_reducible exact HS.out _ (hB.trans (Ext.alloc _ _)) | with_reducible exact HS.out _ (set3_ext hB (by omega)) | with_reducible exact HS.out _ hA | with_reducible exact HS.out _ (hA.trans (Ext.alloc _ _)))
                (first
                  | (go_at_call 10; (with_reducible refine (hownC.out _ (by first | with_reducible exact Ext.drew _ | with_reducible exact (Ext.alloc _ _).trans (Ext.drew _))).mono ?_); rintro e wA ⟨a1, a2, a3, k1, k2, k3, rv', rfl, hoA, hAA, hA⟩; obtain ⟨ra', fa'⟩ := hAA.rules; have za := hAA.size; try simp at za; try (have zz : wr.heap.size < wA.heap.size := by omega))
                  | (go_at_call 25; (with_reducible refine (mod_any o0 20 _ (by decide) (by decide)).mono ?_); rintro e w' ⟨rfl, rfl⟩; rw [HQ.out])
                  | (go_at_call 27; (with_reducible refine (hwithC.out _ wA _ _ _ _ _ _ _ _ hoA.out (by first | with_reducible exact Ext.drew _ | with_reducible exact (Ext.alloc _ _).trans (Ext.drew _)) hAA (by first | with_reducible exact Ext.refl _ | with_reducible exact Ext.alloc _ _)).mono ?_); rintro e wB ⟨gt, gc, kt', kc', rv2, rfl, hoB, hoe, hB⟩; first | (have hz := hoe.out.box (hoA.out.ext (Ext.alloc wA _)) HXT.out HXCL.out (heap_alloc_new wA (.cells #[.slice none 0 0, .slice none 0 0, .slice none 0 0] 25)); obtain ⟨z0, z1, z2⟩ := cells3 hz; have zf := free_heap hz) | (have hz := hoe.out.box hoA.out HXT.out HXCL.out (heap_ext (show (wr.alloc (.cells #[.slice none 0 0, .slice none 0 0, .slice none 0 0] 25)).drew.heap[wr.heap.size]? = some (.cells #[.slice none 0 0, .slice none 0 0, .slice none 0 0] 25 (0, 0)) from heap_alloc_new wr _) hAA); obtain ⟨z0, z1, z2⟩ := cells3 hz; have zf := free_heap hz) | (have hh : OExt wA wB (Value.slice a2 t k2).ownBlock (Value.slice a3 t k3).ownBlock := hoe.out; have hh2 : Ext wr.drew wA := hAA) | (go_must (have hz : 1 = 2 := hAA))))
              all_goals
                have has := hA.size
                go_wp2_with fail
                go_meet
                first
                | exact ⟨_, _, _, _, _, _, _, _, rfl, hB.trans (Ext.alloc _ _), Boxed.ofAlloc (HWR.out.trans hB) hoB.out (by simp) hwrs HXW.out HLM1.out HLM2.out⟩
                | exact ⟨_, _, _, _, _, _, _, _, rfl, set3_ext hB (by omega), Boxed.ofSet3 (HWR.out.trans hB) hoB.out (by simp) hwrs HXW.out HLM1.out HLM2.out hz (by omega)⟩
            -- DEV END
          case rest =>
            as_aux_lemma =>
              obtain ⟨yb, ya1, ya2, ya3, yk1, yk2, yk3, yv, rfl, hxr, hby⟩ := hcut
              have HXR := Lib.hid hxr
              have HBYY := Lib.hid hby
              have HBX2 := Lib.hid (HBY.out.later hxr)
              have HOF6 := Lib.hid (heap_ext HOF5.out hxr)
              clear hxr hby hownC hwithC HROW HRL HBY HOF5 HOF4 HBX HOF3 HOF2 HOF c0 c1 c2 co hmk HROWLT
              have co1 := cell_heap HOF6.out 1
              obtain ⟨c0, c1, c2⟩ := cells3 HBX2.out.box
              obtain ⟨K, hK⟩ : ∃ K, modI o1 5 = K := ⟨_, rfl⟩
              have hKb := modI_bd o1 (n := 5) (by decide)
              rw [hK] at hKb
              have HK := Lib.hid hK
              obtain ⟨hK1, hK2⟩ := hKb
              clear hK
              go_wp2_with fail
              refine (mod_any o1 5 _ (by decide) (by decide)).mono ?_
              rintro e w' ⟨rfl, rfl⟩
              rw [HK.out]
              go_wp2_with fail
              have h1 := own_any aw at_ (some ⟨g, 0, none⟩) kw kt kc X _ (HBX2.out.oc.whole HOKX.out)
              rw [ownD_ok HOKX.out, HXW.out, HXT.out, HXCL.out] at h1
              refine h1.mono ?_
              rintro e w5 ⟨z1, z2, z3, zk1, zk2, zk3, zv, rfl, hoz, hx5⟩
              clear h1
              have hzlen : 0 < X.cs.length := by rw [HXCL.out]; omega
              obtain ⟨gz, rfl, hgz1, hgz2⟩ := own_at hoz.oc hzlen
              have HX5 := Lib.hid hx5
              have HOZ := Lib.hid hoz
              have hs5 := hx5.size
              have hwc := HBX2.out.ext.size
              clear hoz hx5 hzlen c0 c1 c2 co1
              go_wp2_with fail
              have HBZ : Hid (Boxed wc (w5.alloc (.cells #[.slice z1 j zk1, .slice z2 t zk2, .slice (some ⟨gz, 0, none⟩) t zk3] 25)) wc.heap.size w5.heap.size X j t z1 z2 (some ⟨gz, 0, none⟩) zk1 zk2 zk3 zv) :=
                Lib.hid (Boxed.ofAlloc HX5.out HOZ.out (Nat.le_refl _) (Nat.le_refl _) HXW.out HXT.out HXCL.out)
              generalize w5.alloc (.cells #[.slice z1 j zk1, .slice z2 t zk2, .slice (some ⟨gz, 0, none⟩) t zk3] 25) = w6 at *
              obtain ⟨zb, hzb⟩ : ∃ zb, w5.heap.size = zb := ⟨_, rfl⟩
              rw [hzb] at HBZ ⊢
              have hgzb : gz ≠ zb := by omega
              clear hzb HOZ HX5
              go_loopw [15] (fun i wy => ∃ u : Nat, u ≤ t ∧ i = .int .i64 u ∧ Boxed wc wy wc.heap.size zb ⟨X.ws, X.ts, updTo (fun c => (1 + K) * c) X.cs u⟩ j t z1 z2 (some ⟨gz, 0, none⟩) zk1 zk2 zk3 zv) (fun i _ => t - (intOf i).toNat)
              case atStart => exact ⟨0, Nat.zero_le _, rfl, by rw [updTo_zero]; exact HBZ.out⟩
              case round =>
                obtain ⟨u, hu, rfl, hbz⟩ := hrel
                have HBU := Lib.hid hbz
                obtain ⟨c0, c1, c2⟩ := cells3 hbz.box
                clear hbz
                by_cases hltu : u < t
                · obtain ⟨c, cc, cf, hct⟩ := HBU.out.cost hltu
                  have hct2 : X.cs[u]? = some c := by rw [← hct]; exact (updTo_get _ _ _ (by rw [HXCL.out]; exact hltu)).symm
                  have hc1 := HXC2.out c (List.mem_of_getElem? hct2)
                  have HCT := Lib.hid hct2
                  obtain ⟨hc1, hc2⟩ := hc1
                  have i0 : (0 : Int) ≤ (u : Int) := by omega
                  have i1 : (u : Int) < (t : Int) := by omega
                  obtain ⟨p, hp⟩ : ∃ p, (1 + K) * c = p := ⟨_, rfl⟩
                  have hp1 : p ≤ 5 * 20 := by rw [← hp]; exact Int.mul_le_mul (by omega) (by omega) (by omega) (by omega)
                  have hp0 : 1 * 1 ≤ p := by rw [← hp]; exact Int.mul_le_mul (by omega) (by omega) (by omega) (by omega)
                  have HP := Lib.hid hp
                  have e1 : IntKind.i64.wrap ((1 + K) * c) = p := by rw [hp]; exact IntWalk.i64_in _ (by omega)
                  clear hct hct2 hp
                  -- DEV BEGIN
                  as_aux_lemma =>
                    go_wp2_with fail
                    go_region
                    all_goals
                      go_wp2_with fail
                      go_roundw
                      case rel =>
                        have hnew := (HBU.out.setC u p hgzb hgz1).later (Ext.drew _)
                        have hs := updTo_set (fun c => (1 + K) * c) X.cs u c HCT.out
                        try dsimp only at hs
                        rw [HP.out] at hs
                        rw [hs] at hnew
                        exact ⟨u + 1, by omega, by go_num, hnew⟩
                      case measure => simp [intOf]; omega
                  -- DEV END
                · obtain rfl : u = t := by omega
                  have hZ : updTo (fun c => (1 + K) * c) X.cs u = X.cs.map fun c => (1 + K) * c := by rw [← HXCL.out]; exact updTo_all _ _
                  have hbz := HBU.out
                  rw [hZ] at hbz
                  have hbz2 : Boxed wc wr wc.heap.size zb (timesC X (1 + K)) j u z1 z2 (some ⟨gz, 0, none⟩) zk1 zk2 zk3 zv := hbz
                  have hokZ : caseOk (timesC X (1 + K)) = true := times_ok HOKX.out fun x hx => by
                    have := HXC2.out x hx
                    have h1 : (1 + K) * x ≤ 5 * 20 := Int.mul_le_mul (by omega) (by omega) (by omega) (by omega)
                    have h0 : 1 * 1 ≤ (1 + K) * x := Int.mul_le_mul (by omega) (by omega) (by omega) (by omega)
                    omega
                  have hokY : caseOk (moreC X M (1 + q)) = true := more_ok HOKX.out (by rw [HXT.out]; omega) HRB.out (by omega)
                  have halY := more_alike HXA.out M (1 + q)
                  obtain ⟨lY1, lY2⟩ := more_law HOKX.out HXA.out M (1 + q)
                  obtain ⟨lZ1, lZ2⟩ := times_law HOKX.out HXA.out (k := 1 + K) (by omega)
                  obtain ⟨bd1, bd2, bd3, bd4⟩ := best_bd HOKX.out
                  have h1n := fun h => one_law (X := X) HOKX.out (by rw [HXW.out]; exact h)
                  have hL := fun f hf h2 => less_law HOKX.out HXA.out (f := f) (by rw [HXW.out]; exact hf) (by rw [HXW.out]; exact h2)
                  have HL := Lib.hid hL
                  have H1N := Lib.hid h1n
                  have hxz := hbz2.ext
                  have tabz := HTAB.out.ext (HBX2.out.ext.trans hxz)
                  have bX := fun w' (hx : Ext wr w') => Best_ok _ _ w' ((HBX2.out.later (hxz.trans hx)).case) (tabz.ext hx) HOKX.out HXA.out
                  have wX := fun w' (hx : Ext wr w') => Worst_ok _ _ w' ((HBX2.out.later (hxz.trans hx)).case) (tabz.ext hx) HOKX.out HXA.out
                  have bY := fun w' (hx : Ext wr w') => Best_ok _ _ w' ((HBYY.out.later (hxz.trans hx)).case) (tabz.ext hx) hokY halY
                  have wY := fun w' (hx : Ext wr w') => Worst_ok _ _ w' ((HBYY.out.later (hxz.trans hx)).case) (tabz.ext hx) hokY halY
                  have bZ := fun w' (hx : Ext wr w') => Best_ok _ _ w' ((hbz2.later hx).case) (tabz.ext hx) hokZ HXA.out
                  have wZ := fun w' (hx : Ext wr w') => Worst_ok _ _ w' ((hbz2.later hx).case) (tabz.ext hx) hokZ HXA.out
                  rw [lZ1] at bZ
                  rw [lZ2] at wZ
                  obtain ⟨a, hae⟩ : ∃ a, bestCost X (meanM X) = a := ⟨_, rfl⟩
                  obtain ⟨b, hbe⟩ : ∃ b, bestCost X (worstM X) = b := ⟨_, rfl⟩
                  obtain ⟨ya, hyae⟩ : ∃ a, bestCost (moreC X M (1 + q)) (meanM (moreC X M (1 + q))) = a := ⟨_, rfl⟩
                  obtain ⟨yw, hywe⟩ : ∃ a, bestCost (moreC X M (1 + q)) (worstM (moreC X M (1 + q))) = a := ⟨_, rfl⟩
                  rw [hae] at bX bZ bd1 bd2 lY1
                  rw [hbe] at wX wZ bd3 bd4 lY2
                  rw [hyae] at bY lY1
                  rw [hywe] at wY lY2
                  obtain ⟨pa, hpa⟩ : ∃ pa, (1 + K) * a = pa := ⟨_, rfl⟩
                  obtain ⟨pb, hpb⟩ : ∃ pb, (1 + K) * b = pb := ⟨_, rfl⟩
                  have p1 : pa ≤ 5 * 10000000 := by rw [← hpa]; exact Int.mul_le_mul (by omega) (by omega) (by omega) (by omega)
                  have p2 : 0 ≤ pa := by rw [← hpa]; exact Int.mul_nonneg (by omega) (by omega)
                  have p3 : pb ≤ 5 * 10000000 := by rw [← hpb]; exact Int.mul_le_mul (by omega) (by omega) (by omega) (by omega)
                  have p4 : 0 ≤ pb := by rw [← hpb]; exact Int.mul_nonneg (by omega) (by omega)
                  have e1 : IntKind.i64.wrap ((1 + K) * a) = pa := by rw [hpa]; exact IntWalk.i64_in _ (by omega)
                  have e2 : IntKind.i64.wrap ((1 + K) * b) = pb := by rw [hpb]; exact IntWalk.i64_in _ (by omega)
                  have e3 : wrap64 ((1 + K) * a) = pa := by rw [hpa]; exact IntWalk.wrap64_in _ (by omega)
                  have e4 : wrap64 ((1 + K) * b) = pb := by rw [hpb]; exact IntWalk.wrap64_in _ (by omega)
                  rw [hpa] at bZ
                  rw [hpb] at wZ
                  have BX := Lib.hid bX
                  have WX := Lib.hid wX
                  have BY := Lib.hid bY
                  have WY := Lib.hid wY
                  have BZ := Lib.hid bZ
                  have WZ := Lib.hid wZ
                  have HAE := Lib.hid hae
                  have HPA := Lib.hid hpa
                  have HPB := Lib.hid hpb
                  have HBE := Lib.hid hbe
                  have HXZ := Lib.hid hxz
                  have HBZ2 := Lib.hid hbz2
                  have H3 : Hid (∀ w', Ext wr w' → w'.heap[bx]? = some (.cells #[.slice aw j kw, .slice at_ u kt, .slice (some ⟨g, 0, none⟩) u kc] 25 (0, 0)) ∧ w'.heap[yb]? = some (.cells #[.slice ya1 j yk1, .slice ya2 (u + 1) yk2, .slice ya3 (u + 1) yk3] 25 (0, 0)) ∧ w'.heap[zb]? = some (.cells #[.slice z1 j zk1, .slice z2 u zk2, .slice (some ⟨gz, 0, none⟩) u zk3] 25 (0, 0))) :=
                    Lib.hid fun w' hx => ⟨heap_ext HBX2.out.box (hxz.trans hx), heap_ext HBYY.out.box (hxz.trans hx), heap_ext hbz2.box hx⟩
                  clear hZ hbz hbz2 hokZ hokY halY lZ1 lZ2 hL h1n hxz bX wX bY wY bZ wZ hae hbe hyae hywe tabz HBU HBZ hpa hpb
                  obtain ⟨d0, d1, d2⟩ := cells3 (H3.out _ (Ext.refl _)).1
                  go_wp2_with fail
                  refine (BX.out _ (Ext.refl _)).mono ?_
                  rintro e x1 ⟨v1, rfl, _, hx1⟩
                  have HX1 := Lib.hid hx1
                  clear d0 d1 d2 hx1 c0 c1 c2
                  obtain ⟨d0, d1, d2⟩ := cells3 (H3.out _ HX1.out).1
                  go_wp2_with fail
                  refine (WX.out _ HX1.out).mono ?_
                  rintro e x2 ⟨v2, rfl, _, hx2⟩
                  have HX2 := Lib.hid (HX1.out.trans hx2)
                  clear d0 d1 d2 hx2
                  obtain ⟨d0, d1, d2⟩ := cells3 (H3.out _ HX2.out).2.1
                  go_wp2_with fail
                  refine (BY.out _ HX2.out).mono ?_
                  rintro e x3 ⟨v3, rfl, _, hx3⟩
                  have HX3 := Lib.hid (HX2.out.trans hx3)
                  clear d0 d1 d2 hx3
                  obtain ⟨d0, d1, d2⟩ := cells3 (H3.out _ HX3.out).2.1
                  go_wp2_with fail
                  refine (WY.out _ HX3.out).mono ?_
                  rintro e x4 ⟨v4, rfl, _, hx4⟩
                  have HX4 := Lib.hid (HX3.out.trans hx4)
                  clear d0 d1 d2 hx4
                  obtain ⟨d0, d1, d2⟩ := cells3 (H3.out _ HX4.out).2.2
                  go_wp2_with fail
                  refine (BZ.out _ HX4.out).mono ?_
                  rintro e x5 ⟨v5, rfl, _, hx5⟩
                  have HX5 := Lib.hid (HX4.out.trans hx5)
                  clear d0 d1 d2 hx5
                  obtain ⟨d0, d1, d2⟩ := cells3 (H3.out _ HX5.out).2.2
                  go_wp2_with fail
                  refine (WZ.out _ HX5.out).mono ?_
                  rintro e x6 ⟨v6, rfl, _, hx6⟩
                  have HX6 := Lib.hid (HX5.out.trans hx6)
                  clear d0 d1 d2 hx6
                  have HOF7 := Lib.hid (heap_ext HOF6.out (HXZ.out.trans HX6.out))
                  have HBX3 := Lib.hid (HBX2.out.later (HXZ.out.trans HX6.out))
                  have HTAB2 := Lib.hid (HTAB.out.ext HBX3.out.ext)
                  clear BX WX BY WY BZ WZ H3 HX1 HX2 HX3 HX4 HX5 HBYY HBZ2 HRB
                  by_cases hj1 : j = 1
                  ·
                    -- DEV BEGIN
                    as_aux_lemma =>
                      have ha0 := H1N.out hj1 (meanM X)
                      have hb0 := H1N.out hj1 (worstM X)
                      rw [HAE.out] at ha0
                      rw [HBE.out] at hb0
                      have hpa0 : pa = 0 := by rw [← HPA.out, ha0, Int.mul_zero]
                      have hpb0 : pb = 0 := by rw [← HPB.out, hb0, Int.mul_zero]
                      clear e1 e2 e3 e4 HPA HPB HAE HBE
                      subst hj1 ha0 hb0 hpa0 hpb0
                      go_wp2_with fail
                      refine (awake_any _ HTAB2.out).mono ?_
                      rintro e x7 ⟨rfl, hx7⟩
                      go_wp2_with fail
                      go_ret
                      exact ⟨rfl, HBX3.out.ext.trans hx7⟩
                    -- DEV END
                  · have co := cell_heap HOF7.out 0
                    obtain ⟨f, hf, hfj⟩ : ∃ f : Nat, modI o0 (j : Int) = (f : Int) ∧ f < j := by
                      have := modI_bd o0 (n := (j : Int)) (by omega)
                      exact ⟨(modI o0 (j : Int)).toNat, by omega, by omega⟩
                    have HF := Lib.hid hf
                    have hless := HL.out f hfj (by omega)
                    rw [HAE.out, HBE.out] at hless
                    have HLESS := Lib.hid hless
                    clear hf hless HL
                    go_wp2_with fail
                    refine (mod_any o0 (j : Int) _ (by omega) (by omega)).mono ?_
                    rintro e w' ⟨rfl, rfl⟩
                    rw [HF.out]
                    clear co e1 e2 e3 e4
                    obtain ⟨c0, c1, c2⟩ := cells3 HBX3.out.box
                    have hxl := heap_lt HBX3.out.box
                    have hgl := (HBX3.out.oc.oc.lt g rfl).2
                    have hw6 := HBX3.out.ext.size
                    have hwouC : Hid (∀ w', Ext x6 w' → Calls Tryd.prog 28 #[.slice aw j kw, .int .i64 (f : Int)] w' fun e w'' => ∃ a' k', e = .returned (.slice a' (j - 1) k') ∧ Hid (w''.ownsRow w'.heap.size 3 1 (.slice a' (j - 1) k') (j - 1) (intVals (X.ws.eraseIdx f))) ∧ Ext w' w'' ∧ Ext x6 w'') := Lib.hid fun w' hx' => by
                      have hws := (cells_of_own' HBX3.out.oc.ow)
                      exact (without_any aw j kw f X.ws w' HXW.out.symm (CellsAt.ext hws.2.2 hx') (by rw [← HXW.out]; exact hws.2.1) hfj (by omega)).mono fun e w'' ⟨a', k', h1, h2, h3⟩ => ⟨a', k', h1, Lib.hid h2, h3, hx'.trans h3⟩
                    go_upto_region 30 with fail
                    go_cut [35] (fun s35 wx => ∃ (lb : Nat) (la : Option Addr) (lk : Nat), s35 = .pointer (some ⟨lb, 0, none⟩) ∧ Ext x6 wx ∧ x6.heap.size ≤ lb ∧ wx.heap[lb]? = some (.cells #[.slice la (j - 1) lk, .slice none 0 0, .slice (some ⟨g, 0, none⟩) u kc] 25 (0, 0)) ∧
                        wx.ownsRow x6.heap.size 3 1 (.slice la (j - 1) lk) (j - 1) (intVals (X.ws.eraseIdx f)))
                    case first =>
                      -- DEV BEGIN
                      as_aux_lemma =>
                        have dS : x6.drew.cell? ⟨bx, 0, none⟩ = some (.slice aw j kw) ∧ x6.drew.cell? ⟨bx, 2, none⟩ = some (.slice (some ⟨g, 0, none⟩) u kc) := ⟨c0, c2⟩
                        have hS : ∀ w', Ext x6 w' → w'.cell? ⟨bx, 0, none⟩ = some (.slice aw j kw) ∧ w'.cell? ⟨bx, 2, none⟩ = some (.slice (some ⟨g, 0, none⟩) u kc) := fun w' hx => ⟨cell_later hx c0, cell_later hx c2⟩
                        have HS := Lib.hid hS
                        clear hS
                        go_region_held3 (fun w' => w'.cell? ⟨bx, 0, none⟩ = some (.slice aw j kw) ∧ w'.cell? ⟨bx, 2, none⟩ = some (.slice (some ⟨g, 0, none⟩) u kc))
                          (first | with_reducible exact dS | with_reducible exact HS.out _ ((Ext.alloc _ _).trans (Ext.drew _)) | with_reducible exact HS.out _ hA | with_reducible exact HS.out _ (hA.trans (Ext.alloc _ _)) | with_reducible exact HS.out _ (set3_ext hA (by omega)))
                          (first
                            | (go_at_call 28; (with_reducible refine (hwouC.out _ (by first | with_reducible exact Ext.drew _ | with_reducible exact (Ext.alloc _ _).trans (Ext.drew _))).mono ?_); rintro e wA ⟨la, lk, rfl, hoA, hAA, hA⟩; first | (have hz := heap_ext (show (x6.alloc (.cells #[.slice none 0 0, .slice none 0 0, .slice none 0 0] 25)).drew.heap[x6.heap.size]? = some (.cells #[.slice none 0 0, .slice none 0 0, .slice none 0 0] 25 (0, 0)) from heap_alloc_new x6 _) hAA; obtain ⟨z0, z1, z2⟩ := cells3 hz; have zf := free_heap hz) | (have hh2 : Ext x6.drew wA := hAA)))
                        all_goals
                          have has := hA.size
                          go_wp2_with fail
                          go_meet
                          first
                          | exact ⟨_, _, _, rfl, hA.trans (Ext.alloc _ _), has, heap_alloc_new _ _, (own_base hoA.out (by simp)).alloc _⟩
                          | (have q1 := heap_set_same' (o := 0) (u := .slice la (j - 1) lk) hz; have q2 := heap_set_same' (o := 1) (u := .slice none 0 0) q1; have q3 := heap_set_same' (o := 2) (u := .slice (some ⟨g, 0, none⟩) u kc) q2; have hne := own_ne_heap hoA.out hz (by decide); exact ⟨_, _, _, rfl, set3_ext hA (Nat.le_refl _), Nat.le_refl _, q3, ownsRow_setCell_other (ownsRow_setCell_other (ownsRow_setCell_other (own_base hoA.out (by simp)) hne _) hne _) hne _⟩)
                      -- DEV END
                    case rest =>
                      as_aux_lemma =>
                        obtain ⟨lb, la, lk, rfl, hxl2, hlb, hbl, hol⟩ := hcut
                        have hlw : (X.ws.eraseIdx f).length = j - 1 := by rw [List.length_eraseIdx, HXW.out, if_pos hfj]
                        have hoc0 : OC wc wb.heap.size ⟨X.ws.eraseIdx f, (X.ts.take 0).map fun r => r.eraseIdx f, X.cs⟩ la none (some ⟨g, 0, none⟩) lk 0 kc [] := by
                          refine ⟨?_, World.ownsRow_nil _ _ _ _, own_ext HBX3.out.oc.oc hxl2, fun i xs hx => by simp at hx, fun b' hb' e => ?_⟩
                          · dsimp only
                            rw [hlw]
                            exact own_base hol (by have := HBX3.out.oc.oc.lt g rfl; omega)
                          · dsimp only at hb' e
                            rw [hlw] at hb'
                            have h1 := (hol.lt b' hb').1
                            have e' : g = b' := Option.some.inj e
                            omega
                        have HOC0 := Lib.hid hoc0
                        have HLW := Lib.hid hlw
                        have HBL := Lib.hid hbl
                        have HXL2 := Lib.hid hxl2
                        obtain ⟨i2, hi2, hz20, hz21, hz22⟩ := info_parts info_ints
                        have HXTL := HXT.out
                        clear hoc0 hlw hbl hol hxl2 hwouC c0 c1 c2
                        go_wp2_with fail
                        go_loopw [36] (fun i wy => ∃ (v : Nat) (ya : Option Addr) (yt : Nat) (yv : List Value), v ≤ u ∧ i = .int .i64 v ∧ Ext x6 wy ∧ wy.heap[lb]? = some (.cells #[.slice la (j - 1) lk, .slice ya v yt, .slice (some ⟨g, 0, none⟩) u kc] 25 (0, 0)) ∧
                            OC wy wb.heap.size ⟨X.ws.eraseIdx f, (X.ts.take v).map fun r => r.eraseIdx f, X.cs⟩ la ya (some ⟨g, 0, none⟩) lk yt kc yv ∧ (∀ kk, (Value.slice ya v yt).ownBlock = some kk → x6.heap.size ≤ kk)) (fun i _ => u - (intOf i).toNat)
                        case atStart => exact ⟨0, none, 0, [], Nat.zero_le _, rfl, HXL2.out, HBL.out, HOC0.out, fun kk h => by simp [Value.ownBlock] at h⟩
                        case round =>
                          rename World => wy
                          clear HOC0 HBL HXL2
                          obtain ⟨v, ya, yt, yv, hv, rfl, hxy, hby, hocy, holy⟩ := hrel
                          have HOLY := Lib.hid holy
                          have hlv : ((X.ts.take v).map fun r => r.eraseIdx f).length = v := by rw [List.length_map, List.length_take]; omega
                          have HXY := Lib.hid hxy
                          have HBY := Lib.hid hby
                          have HOCY := Lib.hid hocy
                          have HLV := Lib.hid hlv
                          obtain ⟨c0, c1, c2⟩ := cells3 (heap_ext HBX3.out.box hxy)
                          obtain ⟨y0, y1, y2⟩ := cells3 hby
                          clear hxy hby hocy hlv holy
                          by_cases hltv : v < u
                          · obtain ⟨rb, ro, ra', rk', xs, rfl, rc, hrk, hri, hrlt, hxs⟩ := HBX3.out.oc.getRow (i := v) (by omega)
                            have hxsm : X.ts[v]? = some xs := by
                              have hvl : v < X.ts.length := by omega
                              have := hxs.out
                              rw [List.getD_eq_getElem?_getD, List.getElem?_eq_getElem hvl] at this
                              rw [List.getElem?_eq_getElem hvl]
                              exact congrArg some this
                            have hrow := caseOk_row HOKX.out (List.mem_of_getElem? hxsm)
                            have hxl' : xs.length = j := by rw [hrow.1, HXW.out]
                            rw [hxl'] at rc hrk
                            have rc2 := cell_later HXY.out rc
                            have hwou := without_any ra' j rk' f xs wy hxl'.symm (hri.ext HXY.out) hrk hfj (by omega)
                            have HXM := Lib.hid hxsm
                            have HXL' := Lib.hid hxl'
                            have HWOU := Lib.hid hwou
                            clear rc hri hrlt hxsm hrow hxl' hwou hxs
                            go_wp2_with fail
                            refine HWOU.out.mono ?_
                            rintro e w5 ⟨a5, k5, rfl, hown5, hx5⟩
                            have hoc5 := HOCY.out.ext hx5
                            have hb5 := heap_ext HBY.out hx5
                            have hs5 := hx5.size
                            have hs6 := HXY.out.size
                            have hot := hoc5.ot
                            have hol := HOCY.out.ot
                            dsimp only at hot hol
                            rw [HLV.out] at hot hol
                            have hel : (xs.eraseIdx f).length = j - 1 := by rw [List.length_eraseIdx, HXL'.out, if_pos hfj]
                            have hro : RowOff (w5.alloc (.cells #[.slice a5 (j - 1) k5] 22)) a5 (xs.eraseIdx f) (Value.slice ya v yt).ownBlock (Value.slice (some ⟨g, 0, none⟩) X.cs.length kc).ownBlock := by
                              have hcells := (cells_of_own' hown5).2.2
                              refine ⟨CellsAt.ext hcells (Ext.alloc _ _), fun b o hb => ?_⟩
                              subst hb
                              have hlt5 := hown5.lt b rfl
                              refine ⟨by simp; omega, fun e => ?_, fun e => ?_⟩
                              · have := (hol.lt b e.symm).2
                                omega
                              · have e' : b = g := Option.some.inj e
                                omega
                            have hk5 := (cells_of_own' hown5).2.1
                            have HEL := Lib.hid hel
                            have HRO := Lib.hid hro
                            have HOC5 := Lib.hid (hoc5.ext (Ext.alloc w5 (.cells #[.slice a5 (j - 1) k5] 22)))
                            obtain ⟨y0, y1, y2⟩ := cells3 hb5
                            have yf := free_heap hb5
                            have HB5 := Lib.hid hb5
                            have HX5 := Lib.hid (HXY.out.trans hx5)
                            have hwb2 := HBX3.out.oc.oc.lt g rfl
                            have hBw : wb.heap.size ≤ w5.heap.size := by omega
                            clear hoc5 hb5 hro hel hown5 hx5 hol rc2 c0 c1 c2 hwb2
                            go_wp2_with (at_builtin; refine wpList_append_lies _ rfl _ _ 23 rfl wb.heap.size 22 i2 (.slice none 0 0) 1 24 Tryd.underlying23 hi2 hz20 hz21 hz22 rfl (by decide) (.slice ya v yt) v yv rfl (hot.alloc _) ⟨w5.heap.size, 0, none⟩ 1 1 [.slice a5 (j - 1) k5] rfl rfl (World.news_of_block (cs := #[.slice a5 (j - 1) k5]) (heap_alloc_new w5 _)) (by simp [Value.oneCell']) (by decide) (by unfold maxLen; omega) (by omega) (by simp; omega) _ rfl ?_)
                            intro gt kt' w4 ht4 hgrow hat hlt4
                            have hne1 := own_ne_heap hot HB5.out (by decide)
                            have hb4 := heap_grown' hgrow hne1 HB5.out
                            have hx4 : Ext x6 w4 := (HX5.out.trans (Ext.alloc w5 _)).grown hgrow (by have := HX5.out.size; simp; omega) HOLY.out
                            have hgl4 : x6.heap.size ≤ gt := by
                              have := HX5.out.size
                              rcases hat with h | h
                              · exact HOLY.out gt h
                              · omega
                            have hoc4 : OC w4 wb.heap.size ⟨X.ws.eraseIdx f, (X.ts.take (v + 1)).map fun r => r.eraseIdx f, X.cs⟩ la (some ⟨gt, 0, none⟩) (some ⟨g, 0, none⟩) lk kt' kc (yv ++ [.slice a5 (j - 1) k5]) := by
                              have := HOC5.out.addRow (w' := w4) (ra := a5) (rk := k5) (gt := gt) (kt' := kt') (xs := xs.eraseIdx f) (by dsimp only; rw [HLV.out]; exact HRO.out) (by rw [HEL.out]; exact hk5) (by dsimp only; rw [HLV.out, HEL.out]; exact ht4) (by dsimp only; rw [HLV.out]; exact OExt.of_grown hgrow) (by dsimp only; rw [HLV.out]; exact hat.imp id fun e => by rw [e]; simp)
                              dsimp only at this
                              rw [map_take HXM.out, HEL.out] at this
                              exact this
                            obtain ⟨y0, y1, y2⟩ := cells3 hb4
                            have yf := free_heap hb4
                            have HB4 := Lib.hid hb4
                            have HX4 := Lib.hid hx4
                            have HOC4 := Lib.hid hoc4
                            have HGL4 := Lib.hid hgl4
                            clear hot hgrow hat hne1 hb4 hx4 hoc4 ht4 hgl4
                            go_wp2_with fail
                            go_roundw
                            case rel =>
                              exact ⟨v + 1, some ⟨gt, 0, none⟩, kt', _, by omega, by go_num, ((OExt.of_ext HX4.out none none).set hlb).to (Ext.refl x6) (fun k h => by cases h) (fun k h => by cases h), heap_set_same' (o := 1) (u := .slice (some ⟨gt, 0, none⟩) (v + 1) kt') HB4.out, HOC4.out.boxT HB4.out, fun kk h => by simp [Value.ownBlock] at h; have := HGL4.out; omega⟩
                            case measure => simp [intOf]; omega
                          · obtain rfl : v = u := by omega
                            have hD : (⟨X.ws.eraseIdx f, (X.ts.take v).map fun r => r.eraseIdx f, X.cs⟩ : CaseD) = lessC X f := by
                              unfold lessC
                              rw [List.take_of_length_le (by omega)]
                            have hoc := HOCY.out
                            rw [hD] at hoc
                            have hcase := hoc.case
                            have e1 : (lessC X f).ws.length = j - 1 := HLW.out
                            have e2 : (lessC X f).ts.length = v := by unfold lessC; rw [List.length_map]; exact HXTL
                            have e3 : (lessC X f).cs.length = v := HXCL.out
                            rw [e1, e2, e3] at hcase
                            have hokL := less_ok HOKX.out (f := f) (by rw [HXW.out]; exact hfj) (by rw [HXW.out]; omega)
                            have halL := less_alike HOKX.out HXA.out (f := f) (by rw [HXW.out]; exact hfj)
                            have tab := HTAB2.out.ext HXY.out
                            have bL := Best_ok _ _ wy hcase tab hokL halL
                            have wL := fun w' (hx : Ext wy w') => Worst_ok _ _ w' (hcase.ext hx) (tab.ext hx) hokL halL
                            obtain ⟨l1, l2⟩ := HLESS.out
                            obtain ⟨la', hla⟩ : ∃ a, bestCost (lessC X f) (meanM (lessC X f)) = a := ⟨_, rfl⟩
                            obtain ⟨lw', hlw⟩ : ∃ a, bestCost (lessC X f) (worstM (lessC X f)) = a := ⟨_, rfl⟩
                            rw [hla] at bL l1
                            rw [hlw] at wL l2
                            have BL := Lib.hid bL
                            have WL := Lib.hid wL
                            have HTB := Lib.hid tab
                            clear hD hoc hcase e1 e2 e3 hokL halL tab bL wL hla hlw HLESS
                            go_wp2_with fail
                            refine BL.out.mono ?_
                            rintro e x7 ⟨v7, rfl, _, hx7⟩
                            have HX7 := Lib.hid hx7
                            obtain ⟨y0, y1, y2⟩ := cells3 (heap_ext HBY.out hx7)
                            clear hx7
                            go_wp2_with fail
                            refine (WL.out _ HX7.out).mono ?_
                            rintro e x8 ⟨v8, rfl, _, hx8⟩
                            have HX8 := Lib.hid (HX7.out.trans hx8)
                            clear hx8
                            go_wp2_with fail
                            refine (awake_any _ (HTB.out.ext HX8.out)).mono ?_
                            rintro e x9 ⟨rfl, hx9⟩
                            go_wp2_with fail
                            go_ret
                            exact ⟨rfl, HBX3.out.ext.trans (HXY.out.trans (HX8.out.trans hx9))⟩
end Go.Proofs.YtdbendnfgkonbaaDoor
