/- Contract: the greedy selection. -/
import Derived.Test.YtdbendnfgkonbaaDoorPlan
namespace Go.Proofs.YtdbendnfgkonbaaDoor
open Go.RowKit
set_option linter.unusedVariables false
set_option linter.unusedSimpArgs false

/-- The greedy choice among the tests below k: test and gain. -/
def gTo (C : CaseD) (s : Nat) : Nat → Int × Int
  | 0 => (-1, 0)
  | k + 1 =>
    let l := gTo C s k
    let o := (C.ts.map mask).getD k 0
    if splits o s then
      let x := min (wsum C.ws (s &&& o)) (wsum C.ws (sdiff s o))
      if l.1 < 0 ∨ l.2 * C.cs.getD k 0 < x * C.cs.getD l.1.toNat 0 then ((k : Int), x) else l
    else l
def greedySel (C : CaseD) (s : Nat) : Nat := (gTo C s C.ts.length).1.toNat

theorem gTo_range {C : CaseD} (hok : caseOk C = true) (s : Nat) : ∀ k, ((gTo C s k).1 = -1 ∧ (gTo C s k).2 = 0 ∧ ∀ j, j < k → splits ((C.ts.map mask).getD j 0) s = false) ∨
    ((∃ j : Nat, (gTo C s k).1 = (j : Int) ∧ j < k ∧ splits ((C.ts.map mask).getD j 0) s = true) ∧ 0 ≤ (gTo C s k).2 ∧ (gTo C s k).2 ≤ 10000)
  | 0 => .inl ⟨rfl, rfl, fun j hj => by omega⟩
  | k + 1 => by
    have ih := gTo_range hok s k
    have hy := wsum_bd hok (s &&& (C.ts.map mask).getD k 0)
    have hz := wsum_bd hok (sdiff s ((C.ts.map mask).getD k 0))
    rw [gTo]
    dsimp only
    by_cases hsp : splits ((C.ts.map mask).getD k 0) s = true
    · rw [if_pos hsp]
      split
      · exact .inr ⟨⟨k, rfl, by omega, hsp⟩, by dsimp only; omega, by dsimp only; omega⟩
      · rename_i hno
        rcases ih with ⟨h1, _, _⟩ | ⟨⟨j, h1, h2, h3⟩, h4⟩
        · exact absurd (.inl (by omega)) hno
        · exact .inr ⟨⟨j, h1, by omega, h3⟩, h4⟩
    · rw [if_neg hsp]
      rcases ih with ⟨h1, h2, h3⟩ | ⟨⟨j, h1, h2, h3⟩, h4⟩
      · refine .inl ⟨h1, h2, fun j hj => ?_⟩
        rcases Nat.lt_or_eq_of_le (Nat.le_of_lt_succ hj) with h | rfl
        · exact h3 j h
        · simpa using hsp
      · exact .inr ⟨⟨j, h1, by omega, h3⟩, h4⟩

theorem enter_greedy (args : Array Value) (w : World) : (callFunc 36 args).run Tryd.prog w = .ok (.enter 36 args) w := by rfl

set_option maxRecDepth 4000 in
set_option maxHeartbeats 4000000 in
theorem greedySel_any (C : CaseD) (s B : Nat) (aw at_ ac ao : Option Addr) (kw kt kc ko : Nat) (w : World) (hok : caseOk C = true) (hs : s < 2 ^ C.ws.length) (h0 : s ≠ 0)
    (hT : TrialAt w (trialV aw at_ ac ao C.ws.length kw C.ts.length kt C.cs.length kc C.ts.length ko (2 ^ C.ws.length - 1)) C) (hu : UintsAt w ao (C.ts.map mask)) (hc : IntsAt w ac C.cs)
    (hB : w.heap[B]? = some (.cells #[.slice aw C.ws.length kw, .slice at_ C.ts.length kt, .slice ac C.cs.length kc, .slice ao C.ts.length ko, .int .u64 ((2 ^ C.ws.length - 1 : Nat) : Int)] 67 (0, 0)))
    (hex : ∃ j, j < C.ts.length ∧ splits ((C.ts.map mask).getD j 0) s = true) :
    Calls Tryd.prog 36 #[.int .u64 (s : Int), .pointer (some ⟨B, 0, none⟩)] w fun e w' => e = .returned (.int .i64 (greedySel C s : Int)) ∧ Ext w w' := by
  have hn := caseOk_n hok
  have hts := caseOk_ts hok
  have hcs := caseOk_cs hok
  have h1 : s < 1024 := Nat.lt_of_lt_of_le hs (Nat.le_trans (Nat.pow_le_pow_right (by omega) hn.2) (by decide : 2 ^ 10 ≤ 1024))
  have t3 := (cells5 hB).2.2.2.1
  unfold trialV at hT
  have HT := Lib.hid hT
  have HU := Lib.hid hu
  have HC := Lib.hid hc
  have HB := Lib.hid hB
  have HEX := Lib.hid hex
  have HCS := Lib.hid hcs
  clear hT hu hc hB hex hcs
  go_enter Tryd.func36, Tryd.ntmps36
  go_wp2_with fail
  go_loopw [4, 5, 12] (fun b m i wr => ∃ k : Nat, k ≤ C.ts.length ∧ i = .int .i64 k ∧ b = .int .i64 (gTo C s k).1 ∧ m = .int .i64 (gTo C s k).2 ∧ Ext w wr) (fun _ _ i _ => C.ts.length - (intOf i).toNat)
  case atStart => exact ⟨0, Nat.zero_le _, rfl, rfl, rfl, Ext.refl _⟩
  case round =>
    obtain ⟨k, hk, rfl, rfl, rfl, hx⟩ := hrel
    have hr := gTo_range hok s k
    obtain ⟨st, hst⟩ : ∃ st, gTo C s k = st := ⟨_, rfl⟩
    rw [hst] at hr ⊢
    have HST := Lib.hid hst
    clear hst
    obtain ⟨l1, l2⟩ := st
    dsimp only at hr ⊢
    have HR := Lib.hid hr
    have HX := Lib.hid hx
    by_cases hlt : k < C.ts.length
    · have hu' := HU.out.ext hx
      obtain ⟨b, off, x, rfl, cx, hxk⟩ := hu'.get (i := k) (by simpa using hlt)
      have hgx : (C.ts.map mask).getD k 0 = x := by simp only [List.getD, hxk.out]; rfl
      have hxl : x < 1024 := by
        obtain ⟨r, hr, rfl⟩ := List.mem_map.1 (List.mem_of_getElem? hxk.out)
        exact Nat.lt_of_lt_of_le (mask_lt hok hr) (Nat.le_trans (Nat.pow_le_pow_right (by omega) hn.2) (by decide : 2 ^ 10 ≤ 1024))
      have b1 := bits_and_u64 s x (by omega) (by omega)
      have b2 := bits_not_u64 s x (by omega) (by omega)
      have hyl := and_lt (o := x) hs
      have hzl := sdiff_lt (o := x) hs
      clear hr hx hu'
      cases hsp : splits x s with
      | false =>
        have hnx : gTo C s (k + 1) = (l1, l2) := by rw [gTo]; dsimp only; rw [hgx, if_neg (by rw [hsp]; decide), HST.out]
        have HNX := Lib.hid hnx
        have HSP := Lib.hid hsp
        clear hnx hsp hgx
        by_cases hy0 : s &&& x = 0
        · rw [hy0] at b1
          clear b2
          go_wp2_with fail
          go_roundw
          case rel => exact ⟨k + 1, by omega, by go_num, by rw [HNX.out], by rw [HNX.out], HX.out⟩
          case measure => simp [intOf]; omega
        · have hz0 : sdiff s x = 0 := by
            have := HSP.out
            simp only [splits] at this
            simp_all
          rw [hz0] at b2
          have hy1 : ((s &&& x : Nat) : Int) ≠ 0 := by omega
          obtain ⟨y, hy⟩ : ∃ y, s &&& x = y := ⟨_, rfl⟩
          rw [hy] at b1 hy1
          have hy2 : y ≠ 0 := by omega
          clear hy0 hyl hy HSP
          go_wp2_with fail
          go_roundw
          case rel => exact ⟨k + 1, by omega, by go_num, by rw [HNX.out], by rw [HNX.out], HX.out⟩
          case measure => simp [intOf]; omega
      | true =>
        obtain ⟨t0, t1, t2, t3, t4⟩ := cells5 (heap_ext HB.out HX.out)
        obtain ⟨py, pz, qy, qz⟩ := splits_parts h1 hsp
        obtain ⟨y, hy⟩ : ∃ y, s &&& x = y := ⟨_, rfl⟩
        obtain ⟨z, hz⟩ : ∃ z, sdiff s x = z := ⟨_, rfl⟩
        have hnx : gTo C s (k + 1) = if l1 < 0 ∨ l2 * C.cs.getD k 0 < min (wsum C.ws y) (wsum C.ws z) * C.cs.getD l1.toNat 0 then ((k : Int), min (wsum C.ws y) (wsum C.ws z)) else (l1, l2) := by
          rw [gTo]; dsimp only; rw [hgx, if_pos hsp, HST.out, hy, hz]
        have HNX := Lib.hid hnx
        have HSP := Lib.hid hsp
        rw [hy] at b1 py hyl
        rw [hz] at b2 pz hzl
        clear hnx hsp hgx hy hz qy qz
        have hyb : ((y : Int) == 0) = false := by simp; omega
        have hzb : ((z : Int) == 0) = false := by simp; omega
        have hy63 : y < 2 ^ 63 := Nat.lt_trans (Nat.lt_of_lt_of_le hyl (Nat.le_trans (Nat.pow_le_pow_right (by omega) hn.2) (by decide : 2 ^ 10 ≤ 1024))) (by decide)
        have hz63 : z < 2 ^ 63 := Nat.lt_trans (Nat.lt_of_lt_of_le hzl (Nat.le_trans (Nat.pow_le_pow_right (by omega) hn.2) (by decide : 2 ^ 10 ≤ 1024))) (by decide)
        have HTR := Lib.hid (HT.out.ext HX.out)
        obtain ⟨mn, hmn⟩ : ∃ mn, min (wsum C.ws y) (wsum C.ws z) = mn := ⟨_, rfl⟩
        have wby := wsum_bd hok y
        have wbz := wsum_bd hok z
        have hmb : 0 ≤ mn ∧ mn ≤ 10000 := by omega
        go_wp2_with fail
        go_region_held3 (fun w' => w'.cell? ⟨B, 0, none⟩ = some (.slice aw C.ws.length kw) ∧ w'.cell? ⟨B, 1, none⟩ = some (.slice at_ C.ts.length kt) ∧ w'.cell? ⟨B, 2, none⟩ = some (.slice ac C.cs.length kc) ∧
            w'.cell? ⟨B, 3, none⟩ = some (.slice (some ⟨b, off, none⟩) C.ts.length ko) ∧ w'.cell? ⟨B, 4, none⟩ = some (.int .u64 ((2 ^ C.ws.length - 1 : Nat) : Int)))
          (first | exact ⟨cell_later hB2 (cell_later hA2 t0), cell_later hB2 (cell_later hA2 t1), cell_later hB2 (cell_later hA2 t2), cell_later hB2 (cell_later hA2 t3), cell_later hB2 (cell_later hA2 t4)⟩ | exact ⟨cell_later hA2 t0, cell_later hA2 t1, cell_later hA2 t2, cell_later hA2 t3, cell_later hA2 t4⟩ | exact ⟨t0, t1, t2, t3, t4⟩)
          (first | (go_at_call 37; refine (weight_any _ C z _ ((HTR.out.ext (Ext.drew _)).ext hA2) hok hz63).mono ?_; rintro e wB ⟨rfl, hB2⟩) | (go_at_call 37; refine (weight_any _ C y _ (HTR.out.ext (Ext.drew _)) hok hy63).mono ?_; rintro e wA ⟨rfl, hA2⟩))
        rename_i hHeld
        clear hHeld
        have hmin : (if wsum C.ws z < wsum C.ws y then wsum C.ws z else wsum C.ws y) = mn := by rw [← hmn]; split <;> omega
        rw [hmin]
        have hnx := HNX.out
        rw [hmn] at hnx
        have hx3 := (HX.out.trans (Ext.drew _)).trans (hA2.trans hB2)
        have HX3 := Lib.hid hx3
        have t2' := cell_later hx3 (cells5 HB.out).2.2.1
        have hc' := HC.out.ext hx3
        have ft := free_heap HB.out
        clear hmin hmn t0 t1 t2 t3 t4 hx3 cx wby wbz HTR b1 b2 ft
        by_cases hl10 : l1 < 0
        · rw [if_pos (.inl hl10)] at hnx
          have HNX2 := Lib.hid hnx
          clear hnx hc'
          go_wp2_with fail
          go_quiet (fail)
          go_wp2_with fail
          go_roundw
          case rel => exact ⟨k + 1, by omega, by go_num, by rw [HNX2.out], by rw [HNX2.out], HX3.out.trans (Ext.drewN _ _)⟩
          case measure => simp [intOf]; omega
        · rcases HR.out with ⟨h, _, _⟩ | ⟨⟨j, hj, hjk, _⟩, hl20, hl21⟩
          · omega
          subst hj
          obtain ⟨bc, oc, ck, rfl, ckc, hck⟩ := hc'.get (i := k) (by rw [HCS.out]; exact hlt)
          obtain ⟨bc', oc', cj, he, cjc, hcj⟩ := hc'.get (i := j) (by rw [HCS.out]; omega)
          cases he
          have gk : C.cs.getD k 0 = ck := by simp only [List.getD, hck.out]; rfl
          have gj : C.cs.getD (j : Int).toNat 0 = cj := by simp only [Int.toNat_natCast, List.getD, hcj.out]; rfl
          rw [gk, gj] at hnx
          have ckb := caseOk_c hok (List.mem_of_getElem? hck.out)
          have cjb := caseOk_c hok (List.mem_of_getElem? hcj.out)
          clear gk gj hc'
          have p1 : 0 ≤ mn * cj ∧ mn * cj ≤ 1000000 := ⟨Int.mul_nonneg (by omega) (by omega), Int.le_trans (Int.mul_le_mul (by omega) cjb.2 (by omega) (by omega) : mn * cj ≤ 10000 * 100) (by omega)⟩
          have p2 : 0 ≤ l2 * ck ∧ l2 * ck ≤ 1000000 := ⟨Int.mul_nonneg (by omega) (by omega), Int.le_trans (Int.mul_le_mul (by omega) ckb.2 (by omega) (by omega) : l2 * ck ≤ 10000 * 100) (by omega)⟩
          have q1 : IntKind.i64.wrap (mn * cj) = mn * cj := IntWalk.i64_in _ (by omega)
          have q2 : IntKind.i64.wrap (l2 * ck) = l2 * ck := IntWalk.i64_in _ (by omega)
          have i0 : (0 : Int) ≤ (j : Int) := by omega
          have i1 : (j : Int) < (C.cs.length : Int) := by rw [HCS.out]; omega
          have i2 : (k : Int) < (C.cs.length : Int) := by rw [HCS.out]; omega
          have i3 : (0 : Int) ≤ (k : Int) := by omega
          by_cases hgr : l2 * ck < mn * cj
          · rw [if_pos (.inr hgr)] at hnx
            have HNX2 := Lib.hid hnx
            clear hnx
            go_wp2_with fail
            go_quiet (fail)
            go_wp2_with fail
            go_roundw
            case rel => exact ⟨k + 1, by omega, by go_num, by rw [HNX2.out], by rw [HNX2.out], HX3.out.trans (Ext.drewN _ _)⟩
            case measure => simp [intOf]; omega
          · rw [if_neg (by omega)] at hnx
            have HNX2 := Lib.hid hnx
            clear hnx
            go_wp2_with fail
            go_quiet (fail)
            go_wp2_with fail
            go_roundw
            case rel => exact ⟨k + 1, by omega, by go_num, by rw [HNX2.out], by rw [HNX2.out], HX3.out.trans (Ext.drewN _ _)⟩
            case measure => simp [intOf]; omega
    · obtain rfl : k = C.ts.length := by omega
      have hfin : l1 = (greedySel C s : Int) := by
        unfold greedySel
        rw [HST.out]
        rcases HR.out with ⟨_, _, h3⟩ | ⟨⟨j, hj, _⟩, _⟩
        · obtain ⟨j, hj, hsj⟩ := HEX.out
          rw [h3 j hj] at hsj
          cases hsj
        · rw [hj]; rfl
      have HF := Lib.hid hfin
      clear hfin hr
      go_wp2_with fail
      go_ret
      exact ⟨ret_eq (by rw [← HF.out]; rfl), HX.out⟩
end Go.Proofs.YtdbendnfgkonbaaDoor
