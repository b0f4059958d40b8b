/- Contracts: weight, mean, worst. -/
import Derived.Test.YtdbendnfgkonbaaDoorAlike
namespace Go.Proofs.YtdbendnfgkonbaaDoor
open Go.RowKit
set_option linter.unusedVariables false
set_option linter.unusedSimpArgs false

/-- The sum of the weights of the faults of a set below k. -/
def wTo (ws : List Int) (s : Nat) : Nat → Int
  | 0 => 0
  | k + 1 => wTo ws s k + if s.testBit k then ws.getD k 0 else 0
def wsum (ws : List Int) (s : Nat) : Int := wTo ws s ws.length

theorem wTo_bd {C : CaseD} (hok : caseOk C = true) (s : Nat) : ∀ k : Nat, k ≤ C.ws.length → 0 ≤ wTo C.ws s k ∧ wTo C.ws s k ≤ 1000 * k
  | 0, _ => by simp [wTo]
  | k + 1, h => by
    have ih := wTo_bd hok s k (by omega)
    have hx : C.ws.getD k 0 ∈ C.ws := by rw [List.getD_eq_getElem?_getD, List.getElem?_eq_getElem (by omega)]; simp
    have := caseOk_w hok hx
    simp only [wTo]
    split <;> omega
theorem wsum_bd {C : CaseD} (hok : caseOk C = true) (s : Nat) : 0 ≤ wsum C.ws s ∧ wsum C.ws s ≤ 10000 := by
  have h1 := wTo_bd hok s C.ws.length (Nat.le_refl _)
  have h2 := (caseOk_n hok).2
  unfold wsum
  omega

set_option maxHeartbeats 400000 in
theorem weight_any (tv : Value) (C : CaseD) (s : Nat) (w : World) (hT : TrialAt w tv C) (hok : caseOk C = true) (hs : s < 2 ^ 63) :
    Calls Tryd.prog 37 #[tv, .int .u64 (s : Int)] w fun e w' => e = .returned (.int .i64 (wsum C.ws s)) ∧ Ext w w' := by
  obtain ⟨aw, at_, ac, ao, kw, kt, kc, ko, rfl, h1, h2, h3, h4, hw, ht, hc, hu⟩ := hT
  have hn := (caseOk_n hok).2
  have hbd := fun k hk => wTo_bd hok s k hk
  have hcw := fun x hx => caseOk_w hok (x := x) hx
  obtain ⟨ws, ts, cs⟩ := C
  dsimp only at *
  have HBD := Lib.hid hbd
  clear hbd
  unfold trialV
  go_enter Tryd.func37, Tryd.ntmps37
  go_wp2_with fail
  have hw' := hw.ext (Ext.alloc w (.cells #[.slice aw ws.length kw, .slice at_ ts.length kt, .slice ac cs.length kc, .slice ao ts.length ko, .int .u64 ((2 ^ ws.length - 1 : Nat) : Int)] 67))
  go_loop [5, 12] (fun t i => ∃ k : Nat, k ≤ ws.length ∧ i = .int .i64 k ∧ t = .int .i64 (wTo ws s k)) (fun _ i => ws.length - (intOf i).toNat)
  case atStart => exact ⟨0, Nat.zero_le _, rfl, rfl⟩
  case round =>
    obtain ⟨k, hk, rfl, rfl⟩ := hrel
    have hbk := HBD.out k hk
    by_cases hlt : k < ws.length
    · obtain ⟨b, off, x, rfl, cx, hxk⟩ := hw'.get hlt
      have hst : wTo ws s (k + 1) = wTo ws s k + if s.testBit k then x else 0 := by simp [wTo, hxk.out]
      have hxb := hcw x (List.mem_of_getElem? hxk.out)
      cases hbit : s.testBit k with
      | true =>
        rw [hbit, if_pos rfl] at hst
        have HST := Lib.hid hst
        clear hst
        go_wp2_with (go_at_call 51; refine (has_any _ _ _ hs (by omega)).mono ?_; rintro e w' ⟨rfl, rfl⟩)
        go_round
        case rel => exact ⟨k + 1, by omega, by go_num, by rw [HST.out]⟩
        case measure => simp [intOf]; omega
      | false =>
        rw [hbit] at hst
        have HST := Lib.hid hst
        clear hst
        go_wp2_with (go_at_call 51; refine (has_any _ _ _ hs (by omega)).mono ?_; rintro e w' ⟨rfl, rfl⟩)
        go_round
        case rel => exact ⟨k + 1, by omega, by go_num, by rw [HST.out]; simp⟩
        case measure => simp [intOf]; omega
    · obtain rfl : k = ws.length := by omega
      go_wp2_with fail
      go_ret
      exact ⟨rfl, Ext.alloc _ _⟩

set_option maxHeartbeats 1000000 in
theorem mean_any (tv : Value) (C : CaseD) (k s : Nat) (zero one : Int) (w : World) (hT : TrialAt w tv C) (hok : caseOk C = true) (hs : s < 2 ^ 63) (hk : k < C.cs.length) (hz : 0 ≤ zero ∧ zero ≤ 1000000000) (ho : 0 ≤ one ∧ one ≤ 1000000000) :
    Calls Tryd.prog 46 #[tv, .int .i64 (k : Int), .int .u64 (s : Int), .int .i64 zero, .int .i64 one] w fun e w' => e = .returned (.int .i64 (C.cs.getD k 0 * wsum C.ws s + zero + one)) ∧ Ext w w' := by
  have hT0 := hT
  obtain ⟨aw, at_, ac, ao, kw, kt, kc, ko, rfl, h1, h2, h3, h4, hw, ht, hc, hu⟩ := hT
  obtain ⟨b, off, x, rfl, cx, hxk⟩ := hc.get hk
  have hxb := caseOk_c hok (List.mem_of_getElem? hxk.out)
  have hwb := wsum_bd hok s
  have hxg : C.cs.getD k 0 = x := by simp only [List.getD, hxk.out]; rfl
  rw [hxg]
  have hprod : 0 ≤ x * wsum C.ws s ∧ x * wsum C.ws s ≤ 1000000 := by
    constructor
    · exact Int.mul_nonneg (by omega) (by omega)
    · have : x * wsum C.ws s ≤ 100 * 10000 := Int.mul_le_mul (by omega) (by omega) (by omega) (by omega)
      omega
  obtain ⟨B, hB⟩ : ∃ B, B = w.heap.size := ⟨_, rfl⟩
  have HXG := Lib.hid hxg
  clear hxg
  have hk0 : (0 : Int) ≤ (k : Int) := by omega
  have hk1 : (k : Int) < (C.cs.length : Int) := by omega
  have hbl := lt_of_cell cx
  have hne : b ≠ w.heap.size := by omega
  unfold trialV at hT0 ⊢
  go_enter Tryd.func46, Tryd.ntmps46
  go_wp2_with fail
  have hBx := heap_alloc_new w (.cells #[.slice aw C.ws.length kw, .slice at_ C.ts.length kt, .slice (some ⟨b, off, none⟩) C.cs.length kc, .slice ao C.ts.length ko, .int .u64 ((2 ^ C.ws.length - 1 : Nat) : Int)] 67)
  have hx1 := Ext.alloc w (.cells #[.slice aw C.ws.length kw, .slice at_ C.ts.length kt, .slice (some ⟨b, off, none⟩) C.cs.length kc, .slice ao C.ts.length ko, .int .u64 ((2 ^ C.ws.length - 1 : Nat) : Int)] 67)
  generalize w.alloc (.cells #[.slice aw C.ws.length kw, .slice at_ C.ts.length kt, .slice (some ⟨b, off, none⟩) C.cs.length kc, .slice ao C.ts.length ko, .int .u64 ((2 ^ C.ws.length - 1 : Nat) : Int)] 67) = w1 at *
  obtain ⟨t0, t1, t2, t3, t4⟩ := cells5 hBx
  have cx1 := cell_later hx1 cx
  have hT1 := hT0.ext hx1
  clear cx hBx hT0
  have HH := Lib.hid hT1
  go_region_held3 (fun w' => w'.cell? ⟨w.heap.size, 0, none⟩ = some (.slice aw C.ws.length kw) ∧ w'.cell? ⟨w.heap.size, 1, none⟩ = some (.slice at_ C.ts.length kt) ∧ w'.cell? ⟨w.heap.size, 2, none⟩ = some (.slice (some ⟨b, off, none⟩) C.cs.length kc) ∧
      w'.cell? ⟨w.heap.size, 3, none⟩ = some (.slice ao C.ts.length ko) ∧ w'.cell? ⟨w.heap.size, 4, none⟩ = some (.int .u64 ((2 ^ C.ws.length - 1 : Nat) : Int)) ∧ w'.cell? ⟨b, off + k, none⟩ = some (.int .i64 x))
    (first | exact ⟨t0, t1, t2, t3, t4, cx1⟩ | exact ⟨cell_later hb2 t0, cell_later hb2 t1, cell_later hb2 t2, cell_later hb2 t3, cell_later hb2 t4, cell_later hb2 cx1⟩)
    (first | (go_at_call 37; refine (weight_any _ C s _ (HH.out.ext (Ext.drew _)) hok hs).mono ?_; rintro e w2 ⟨rfl, hb2⟩))
  go_wp2_with fail
  go_ret
  refine ⟨ret_eq ?_, hx1.trans ((Ext.drew w1).trans hb2)⟩
  show Value.int .i64 (IntKind.i64.wrap (IntKind.i64.wrap (IntKind.i64.wrap (x * wsum C.ws s) + zero) + one)) = _
  rw [IntWalk.i64_in (x * wsum C.ws s) (by omega), IntWalk.i64_in (x * wsum C.ws s + zero) (by omega), IntWalk.i64_in _ (by omega)]

set_option maxHeartbeats 1000000 in
theorem worst_any (tv : Value) (C : CaseD) (k s : Nat) (zero one : Int) (w : World) (hT : TrialAt w tv C) (hok : caseOk C = true) (hk : k < C.cs.length) (hz : 0 ≤ zero ∧ zero ≤ 1000000000) (ho : 0 ≤ one ∧ one ≤ 1000000000) :
    Calls Tryd.prog 47 #[tv, .int .i64 (k : Int), .int .u64 (s : Int), .int .i64 zero, .int .i64 one] w fun e w' => e = .returned (.int .i64 (C.cs.getD k 0 + max zero one)) ∧ Ext w w' := by
  obtain ⟨aw, at_, ac, ao, kw, kt, kc, ko, rfl, h1, h2, h3, h4, hw, ht, hc, hu⟩ := hT
  obtain ⟨b, off, x, rfl, cx, hxk⟩ := hc.get hk
  have hxb := caseOk_c hok (List.mem_of_getElem? hxk.out)
  have hxg : C.cs.getD k 0 = x := by simp only [List.getD, hxk.out]; rfl
  rw [hxg]
  have HXG := Lib.hid hxg
  clear hxg
  have cx1 := fun o => cell_later (Ext.alloc w o) cx
  unfold trialV
  go_enter Tryd.func47, Tryd.ntmps47
  go_wp2_with fail
  · go_ret
    refine ⟨ret_eq ?_, Ext.alloc _ _⟩
    show Value.int .i64 (x + one) = Value.int .i64 (x + max zero one)
    congr 1
    omega
  · go_ret
    refine ⟨ret_eq ?_, Ext.alloc _ _⟩
    show Value.int .i64 (x + zero) = Value.int .i64 (x + max zero one)
    congr 1
    omega
end Go.Proofs.YtdbendnfgkonbaaDoor
