/- Contract: tame. -/
import Derived.Test.YtdbendnfgkonbaaDoorTameA
namespace Go.Proofs.YtdbendnfgkonbaaDoor
open Go.RowKit
set_option linter.unusedVariables false
set_option linter.unusedSimpArgs false

theorem modI_wrap64 (x n : Int) : modI (wrap64 x) n = modI x n := by
  unfold modI wrap64
  congr 1
  omega

theorem bit_eq (j b : Nat) : ((j : Int) / 2 ^ b).tmod 2 = ((j / 2 ^ b % 2 : Nat) : Int) := by
  have e : (j : Int) / 2 ^ b = ((j / 2 ^ b : Nat) : Int) := by
    rw [Int.natCast_ediv]
    simp
  rw [e, Int.tmod_eq_emod_of_nonneg (Int.natCast_nonneg _)]
  simp

set_option maxRecDepth 8000 in
set_option maxHeartbeats 8000000 in
theorem tame_any (cv : Value) (C : CaseD) (w : World) (hC : CaseAt w cv C) :
    Calls Tryd.prog 20 #[cv] w fun e w' => ∃ aw at_ ac kw kt kc rv,
      e = .returned (.agg #[.slice aw (tameD C).ws.length kw, .slice at_ (tameD C).ts.length kt, .slice ac (tameD C).cs.length kc]) ∧ OC w' w.heap.size (tameD C) aw at_ ac kw kt kc rv ∧ Ext w w' := by
  obtain ⟨ow, xw, ot, xt, oc, xc, rfl, k1, k2, k3, hw, ht, hc⟩ := hC
  have hn := tameN_bd C
  have hnI := tameN_int C
  obtain ⟨n, hnE⟩ : ∃ n, tameN C = n := ⟨_, rfl⟩
  rw [hnE] at hn hnI
  have HNE := Lib.hid hnE
  have HW := Lib.hid hw
  have HT := Lib.hid ht
  have HC := Lib.hid hc
  clear hnE hw ht hc
  have HNI := Lib.hid hnI
  clear hnI
  go_enter Tryd.func20, Tryd.ntmps20
  go_wp2_with fail
  refine (mod_any _ _ _ (by decide) (by decide)).mono ?_
  rintro e w1 ⟨rfl, rfl⟩
  have hm : ∃ p : Nat, modI (wrap64 ((C.ws.length : Int) - 1)) 10 = (p : Int) ∧ 1 + (p : Int) = (n : Int) ∧ p ≤ 9 := by
    rw [modI_wrap64]
    have := HNI.out
    have hb := modI_bd ((C.ws.length : Int) - 1) (n := 10) (by decide)
    exact ⟨(modI ((C.ws.length : Int) - 1) 10).toNat, by omega, by omega, by omega⟩
  obtain ⟨p, hp1, hp2, hp9⟩ := hm
  rw [hp1]
  clear hp1
  go_wp2_with fail
  have hx3 : ∀ a b c, Ext w (((w.alloc a).alloc b).alloc c) := fun a b c => ((Ext.alloc _ _).trans (Ext.alloc _ _)).trans (Ext.alloc _ _)
  have hb1 : ∀ a b c, (((w.alloc a).alloc b).alloc c).heap[w.heap.size]? = some a := fun a b c => heap_alloc (heap_alloc (heap_alloc_new w a))
  have hb2 : ∀ a b c, (((w.alloc a).alloc b).alloc c).heap[w.heap.size + 1]? = some b := fun a b c => heap_alloc (by have := heap_alloc_new (w.alloc a) b; simpa only [wsize_alloc] using this)
  have hb4 : ∀ a b c, (((w.alloc a).alloc b).alloc c).heap[w.heap.size + 1 + 1]? = some c := fun a b c => by have := heap_alloc_new ((w.alloc a).alloc b) c; simpa only [wsize_alloc] using this
  have hX := Lib.hid (hx3 (.cells #[.slice ow C.ws.length xw, .slice ot C.ts.length xt, .slice oc C.cs.length xc] 25) (.cells #[.slice none 0 0, .slice none 0 0, .slice none 0 0] 25) (.cells #[.slice none 0 0, .slice none 0 0, .slice none 0 0] 25))
  have h1 := hb1 (.cells #[.slice ow C.ws.length xw, .slice ot C.ts.length xt, .slice oc C.cs.length xc] 25) (.cells #[.slice none 0 0, .slice none 0 0, .slice none 0 0] 25) (.cells #[.slice none 0 0, .slice none 0 0, .slice none 0 0] 25)
  have h2 := hb2 (.cells #[.slice ow C.ws.length xw, .slice ot C.ts.length xt, .slice oc C.cs.length xc] 25) (.cells #[.slice none 0 0, .slice none 0 0, .slice none 0 0] 25) (.cells #[.slice none 0 0, .slice none 0 0, .slice none 0 0] 25)
  have h4 := hb4 (.cells #[.slice ow C.ws.length xw, .slice ot C.ts.length xt, .slice oc C.cs.length xc] 25) (.cells #[.slice none 0 0, .slice none 0 0, .slice none 0 0] 25) (.cells #[.slice none 0 0, .slice none 0 0, .slice none 0 0] 25)
  clear hx3 hb1 hb2 hb4
  obtain ⟨w3, hw3⟩ : ∃ w3, ((w.alloc (.cells #[.slice ow C.ws.length xw, .slice ot C.ts.length xt, .slice oc C.cs.length xc] 25)).alloc (.cells #[.slice none 0 0, .slice none 0 0, .slice none 0 0] 25)).alloc (.cells #[.slice none 0 0, .slice none 0 0, .slice none 0 0] 25) = w3 := ⟨_, rfl⟩
  rw [hw3] at hX h1 h2 h4 ⊢
  clear hw3
  have H1 := Lib.hid h1
  have H2 := Lib.hid h2
  have H4 := Lib.hid h4
  clear h1 h2 h4
  obtain ⟨i1, hi1, hz10, hz11, hz12⟩ := info_parts info_int
  go_loopw [5] (fun i wr => ∃ (k : Nat) (aw : Option Addr) (kw : Nat), k ≤ n ∧ i = .int .i64 k ∧ Ext w wr ∧ wr.heap[w.heap.size]? = some (.cells #[.slice ow C.ws.length xw, .slice ot C.ts.length xt, .slice oc C.cs.length xc] 25 (0, 0)) ∧
      wr.heap[w.heap.size + 1]? = some (.cells #[.slice none 0 0, .slice none 0 0, .slice none 0 0] 25 (0, 0)) ∧ wr.heap[w.heap.size + 1 + 1]? = some (.cells #[.slice aw k kw, .slice none 0 0, .slice none 0 0] 25 (0, 0)) ∧
      wr.ownsRow (w.heap.size + 3) 3 1 (.slice aw k kw) k (intVals ((List.range k).map (tameW C)))) (fun i _ => n - (intOf i).toNat)
  case atStart => exact ⟨0, none, 0, Nat.zero_le _, rfl, hX.out, H1.out, H2.out, H4.out, World.ownsRow_nil _ _ _ _⟩
  case round =>
    obtain ⟨k, aw, kw, hk, rfl, hx, h1, h2, h4, hown⟩ := hrel
    by_cases hlt : k < n
    · obtain ⟨a0, a1, a2⟩ := cells3 h1
      obtain ⟨t0, t1, t2⟩ := cells3 h4
      have hats := at_any ow xw C.ws k wr (HW.out.ext hx)
      obtain ⟨x, hxe⟩ : ∃ x, C.ws.getD k 0 = x := ⟨_, rfl⟩
      rw [hxe] at hats
      have HXE := Lib.hid hxe
      have HATS := Lib.hid hats
      have HX := Lib.hid hx
      have HH1 := Lib.hid h1
      have HH2 := Lib.hid h2
      have HH4 := Lib.hid h4
      have HOWN := Lib.hid hown
      have hsz := heap_lt h4
      clear hats hx h1 h2 h4 hown hxe
      by_cases hbad : x < 1 ∨ 1000 < x
      · have hq := modI_bd x (n := 1000) (by decide)
        obtain ⟨q, hqe⟩ : ∃ q, modI x 1000 = q := ⟨_, rfl⟩
        have HQ := Lib.hid hqe
        rw [hqe] at hq
        clear hqe
        have HBAD := Lib.hid hbad
        rcases hbad with hb | hb
        · go_wp2_with (first | (go_at_call 26; refine HATS.out.mono ?_; rintro e w' ⟨rfl, rfl⟩) | (go_at_call 25; refine (mod_any x 1000 _ (by decide) (by decide)).mono ?_; rintro e w' ⟨rfl, rfl⟩; rw [HQ.out]) | (at_builtin; refine wpList_append_lies _ rfl _ _ 22 rfl (w.heap.size + 3) 3 i1 (.int .i64 0) 1 8 Tryd.underlying22 hi1 hz10 hz11 hz12 rfl (by decide) (.slice aw k kw) k (intVals ((List.range k).map (tameW C))) rfl (HOWN.out.alloc _) ⟨wr.heap.size, 0, none⟩ 1 1 [.int .i64 (1 + q)] rfl rfl (World.news_of_block (cs := #[.int .i64 (1 + q)]) (heap_alloc_new wr _)) (by simp [Value.oneCell']) (by decide) (by unfold maxLen; omega) (by omega) (by simp; omega) _ rfl ?_))
          intro g kw' w4 hown4 hgrow hat hlt4
          have g1 := heap_grown' hgrow (own_ne HOWN.out (by omega)) HH1.out
          have g2 := heap_grown' hgrow (own_ne HOWN.out (by omega)) HH2.out
          have g4 := heap_grown' hgrow (own_ne HOWN.out (by omega)) HH4.out
          have gx := ext_grown HX.out hgrow HOWN.out (by omega)
          have f4 := free_heap g4
          obtain ⟨t0, t1, t2⟩ := cells3 g4
          have r1 := heap_set_other (a := ⟨w.heap.size + 1 + 1, 0, none⟩) (v := .slice (some ⟨g, 0, none⟩) (k + 1) kw') g1 (by simp; omega)
          have r2 := heap_set_other (a := ⟨w.heap.size + 1 + 1, 0, none⟩) (v := .slice (some ⟨g, 0, none⟩) (k + 1) kw') g2 (by simp)
          have r4 := heap_set_same' (o := 0) (u := .slice (some ⟨g, 0, none⟩) (k + 1) kw') g4
          have ro := ownsRow_setCell_below hown4 (a := ⟨w.heap.size + 1 + 1, 0, none⟩) (by simp) (.slice (some ⟨g, 0, none⟩) (k + 1) kw')
          have rx := (OExt.of_ext gx none none).set (B := w.heap.size + 1 + 1) (o := 0) (v := .slice (some ⟨g, 0, none⟩) (k + 1) kw') (by omega)
          have hstep : intVals ((List.range k).map (tameW C)) ++ [.int .i64 (1 + q)] = intVals ((List.range (k + 1)).map (tameW C)) := by
            have : tameW C k = 1 + q := by unfold tameW; rw [HXE.out, if_pos HBAD.out, HQ.out]
            rw [List.range_succ, List.map_append]
            simp [intVals, this]
          rw [hstep] at ro
          have R1 := Lib.hid r1
          have R2 := Lib.hid r2
          have R4 := Lib.hid r4
          have RO := Lib.hid ro
          have RX := Lib.hid (rx.to (Ext.refl w) (fun k h => by cases h) (fun k h => by cases h))
          clear g1 g2 g4 gx r1 r2 r4 ro rx hown4 hgrow hat hlt4 hstep
          go_wp2_with fail
          go_roundw
          case rel => exact ⟨k + 1, _, _, by omega, by go_num, RX.out, R1.out, R2.out, R4.out, RO.out⟩
          case measure => simp [intOf]; omega
        · have hb1 : ¬ x < 1 := by omega
          go_wp2_with (first | (go_at_call 26; refine HATS.out.mono ?_; rintro e w' ⟨rfl, rfl⟩) | (go_at_call 25; refine (mod_any x 1000 _ (by decide) (by decide)).mono ?_; rintro e w' ⟨rfl, rfl⟩; rw [HQ.out]) | (at_builtin; refine wpList_append_lies _ rfl _ _ 22 rfl (w.heap.size + 3) 3 i1 (.int .i64 0) 1 8 Tryd.underlying22 hi1 hz10 hz11 hz12 rfl (by decide) (.slice aw k kw) k (intVals ((List.range k).map (tameW C))) rfl (HOWN.out.alloc _) ⟨wr.heap.size, 0, none⟩ 1 1 [.int .i64 (1 + q)] rfl rfl (World.news_of_block (cs := #[.int .i64 (1 + q)]) (heap_alloc_new wr _)) (by simp [Value.oneCell']) (by decide) (by unfold maxLen; omega) (by omega) (by simp; omega) _ rfl ?_))
          intro g kw' w4 hown4 hgrow hat hlt4
          have g1 := heap_grown' hgrow (own_ne HOWN.out (by omega)) HH1.out
          have g2 := heap_grown' hgrow (own_ne HOWN.out (by omega)) HH2.out
          have g4 := heap_grown' hgrow (own_ne HOWN.out (by omega)) HH4.out
          have gx := ext_grown HX.out hgrow HOWN.out (by omega)
          have f4 := free_heap g4
          obtain ⟨t0, t1, t2⟩ := cells3 g4
          have r1 := heap_set_other (a := ⟨w.heap.size + 1 + 1, 0, none⟩) (v := .slice (some ⟨g, 0, none⟩) (k + 1) kw') g1 (by simp; omega)
          have r2 := heap_set_other (a := ⟨w.heap.size + 1 + 1, 0, none⟩) (v := .slice (some ⟨g, 0, none⟩) (k + 1) kw') g2 (by simp)
          have r4 := heap_set_same' (o := 0) (u := .slice (some ⟨g, 0, none⟩) (k + 1) kw') g4
          have ro := ownsRow_setCell_below hown4 (a := ⟨w.heap.size + 1 + 1, 0, none⟩) (by simp) (.slice (some ⟨g, 0, none⟩) (k + 1) kw')
          have rx := (OExt.of_ext gx none none).set (B := w.heap.size + 1 + 1) (o := 0) (v := .slice (some ⟨g, 0, none⟩) (k + 1) kw') (by omega)
          have hstep : intVals ((List.range k).map (tameW C)) ++ [.int .i64 (1 + q)] = intVals ((List.range (k + 1)).map (tameW C)) := by
            have : tameW C k = 1 + q := by unfold tameW; rw [HXE.out, if_pos HBAD.out, HQ.out]
            rw [List.range_succ, List.map_append]
            simp [intVals, this]
          rw [hstep] at ro
          have R1 := Lib.hid r1
          have R2 := Lib.hid r2
          have R4 := Lib.hid r4
          have RO := Lib.hid ro
          have RX := Lib.hid (rx.to (Ext.refl w) (fun k h => by cases h) (fun k h => by cases h))
          clear g1 g2 g4 gx r1 r2 r4 ro rx hown4 hgrow hat hlt4 hstep
          go_wp2_with fail
          go_roundw
          case rel => exact ⟨k + 1, _, _, by omega, by go_num, RX.out, R1.out, R2.out, R4.out, RO.out⟩
          case measure => simp [intOf]; omega
      · have HBAD := Lib.hid hbad
        have hb1 : ¬ x < 1 := by omega
        have hb2 : ¬ 1000 < x := by omega
        clear hbad
        go_wp2_with (first | (go_at_call 26; refine HATS.out.mono ?_; rintro e w' ⟨rfl, rfl⟩) | (at_builtin; refine wpList_append_lies _ rfl _ _ 22 rfl (w.heap.size + 3) 3 i1 (.int .i64 0) 1 8 Tryd.underlying22 hi1 hz10 hz11 hz12 rfl (by decide) (.slice aw k kw) k (intVals ((List.range k).map (tameW C))) rfl (HOWN.out.alloc _) ⟨wr.heap.size, 0, none⟩ 1 1 [.int .i64 (x)] rfl rfl (World.news_of_block (cs := #[.int .i64 (x)]) (heap_alloc_new wr _)) (by simp [Value.oneCell']) (by decide) (by unfold maxLen; omega) (by omega) (by simp; omega) _ rfl ?_))
        intro g kw' w4 hown4 hgrow hat hlt4
        have g1 := heap_grown' hgrow (own_ne HOWN.out (by omega)) HH1.out
        have g2 := heap_grown' hgrow (own_ne HOWN.out (by omega)) HH2.out
        have g4 := heap_grown' hgrow (own_ne HOWN.out (by omega)) HH4.out
        have gx := ext_grown HX.out hgrow HOWN.out (by omega)
        have f4 := free_heap g4
        obtain ⟨t0, t1, t2⟩ := cells3 g4
        have r1 := heap_set_other (a := ⟨w.heap.size + 1 + 1, 0, none⟩) (v := .slice (some ⟨g, 0, none⟩) (k + 1) kw') g1 (by simp; omega)
        have r2 := heap_set_other (a := ⟨w.heap.size + 1 + 1, 0, none⟩) (v := .slice (some ⟨g, 0, none⟩) (k + 1) kw') g2 (by simp)
        have r4 := heap_set_same' (o := 0) (u := .slice (some ⟨g, 0, none⟩) (k + 1) kw') g4
        have ro := ownsRow_setCell_below hown4 (a := ⟨w.heap.size + 1 + 1, 0, none⟩) (by simp) (.slice (some ⟨g, 0, none⟩) (k + 1) kw')
        have rx := (OExt.of_ext gx none none).set (B := w.heap.size + 1 + 1) (o := 0) (v := .slice (some ⟨g, 0, none⟩) (k + 1) kw') (by omega)
        have hstep : intVals ((List.range k).map (tameW C)) ++ [.int .i64 (x)] = intVals ((List.range (k + 1)).map (tameW C)) := by
          have : tameW C k = x := by unfold tameW; rw [HXE.out, if_neg HBAD.out]
          rw [List.range_succ, List.map_append]
          simp [intVals, this]
        rw [hstep] at ro
        have R1 := Lib.hid r1
        have R2 := Lib.hid r2
        have R4 := Lib.hid r4
        have RO := Lib.hid ro
        have RX := Lib.hid (rx.to (Ext.refl w) (fun k h => by cases h) (fun k h => by cases h))
        clear g1 g2 g4 gx r1 r2 r4 ro rx hown4 hgrow hat hlt4 hstep
        go_wp2_with fail
        go_roundw
        case rel => exact ⟨k + 1, _, _, by omega, by go_num, RX.out, R1.out, R2.out, R4.out, RO.out⟩
        case measure => simp [intOf]; omega
    · obtain rfl : k = n := by omega
      have hl0 := tameTo_len C 0 0
      rw [HNE.out] at hl0
      have hoc : OC wr (w.heap.size + 3) (tameTo C 0 0) aw none none kw 0 0 [] := by
        have e0 : tameTo C 0 0 = ⟨(List.range k).map (tameW C), [], []⟩ := by unfold tameTo; rw [HNE.out]; rfl
        rw [e0]
        refine ⟨?_, World.ownsRow_nil _ _ _ _, World.ownsRow_nil _ _ _ _, fun i xs hx => by simp at hx, fun b _ h => by simp [Value.ownBlock] at h⟩
        simpa using hown
      have HOC := Lib.hid hoc
      have HX := Lib.hid hx
      have HH1 := Lib.hid h1
      have HH2 := Lib.hid h2
      have HH4 := Lib.hid h4
      clear hl0 hoc hx h1 h2 h4 hown
      go_wp2_with fail
      go_loopw [8] (fun i wr => ∃ (t : Nat) (aw at_ ac : Option Addr) (kw kt kc : Nat) (rv : List Value), t ≤ C.ts.length ∧ t ≤ 6 ∧ i = .int .i64 t ∧ Ext w wr ∧ wr.heap[w.heap.size]? = some (.cells #[.slice ow C.ws.length xw, .slice ot C.ts.length xt, .slice oc C.cs.length xc] 25 (0, 0)) ∧
          wr.heap[w.heap.size + 1]? = some (.cells #[.slice none 0 0, .slice none 0 0, .slice none 0 0] 25 (0, 0)) ∧ wr.heap[w.heap.size + 1 + 1]? = some (.cells #[.slice aw k kw, .slice at_ t kt, .slice ac t kc] 25 (0, 0)) ∧
          OC wr (w.heap.size + 3) (tameTo C t 0) aw at_ ac kw kt kc rv) (fun i _ => 6 - (intOf i).toNat)
      case atStart => exact ⟨0, aw, none, none, kw, 0, 0, [], Nat.zero_le _, Nat.zero_le _, rfl, HX.out, HH1.out, HH2.out, HH4.out, HOC.out⟩
      case round =>
        clear HX HH1 HH2 HH4 HOC
        obtain ⟨t, aw, at_, ac, kw, kt, kc, rv, ht0, ht6, rfl, hx, h1, h2, h4, hoc⟩ := hrel
        obtain ⟨a0, a1, a2⟩ := cells3 h1
        have HOC := Lib.hid hoc
        have HX := Lib.hid hx
        have HH1 := Lib.hid h1
        have HH2 := Lib.hid h2
        have HH4 := Lib.hid h4
        have hsz := heap_lt h4
        clear hx h1 h2 h4 hoc
        by_cases hlt : t < C.ts.length ∧ t < 6
        · obtain ⟨hlt1, hlt2⟩ := hlt
          have hmk : ∀ w : World, (Instr.makeSlice 22 (.int .i64 (k : Int)) (.int .i64 (k : Int))).run Tryd.prog w = .ok (.slice (some ⟨w.heap.size, 0, none⟩) k k) (w.alloc (.cells (madeCells #[.int .i64 0] k) 3)) := by
            intro w
            have := run_make (P := Tryd.prog) w 22 3 i1 (.int .i64 0) Tryd.underlying22 hi1 hz10 .i64 .i64 k k (by omega) (Int.le_refl _) (by rw [hz12]; omega) (by omega)
            simpa [hz11, Value.cells] using this
          go_wp2_with fail
          obtain ⟨br, orr, ar, kr, xs, rfl, cr, hkr, hxs, hxt⟩ := (HT.out.ext HX.out).get hlt1
          have gxs : C.ts.getD t [] = xs := by simp only [List.getD, hxt.out]; rfl
          have HGXS := Lib.hid gxs
          have HXS := Lib.hid hxs
          clear gxs hxs
          obtain ⟨wq, hwq⟩ : ∃ wq, wq = wr := ⟨_, rfl⟩
          subst hwq
          have i2d : decide ((t : Int) < 6) = true := decide_eq_true (by omega)
          rw [i2d]
          clear i2d
          go_loopw [10] (fun i w2 => ∃ j : Nat, j ≤ k ∧ i = .int .i64 j ∧ Fill wq w2 (fun i => modI (xs.getD i 0) 2) k j) (fun i _ => k - (intOf i).toNat)
          case atStart => exact ⟨0, Nat.zero_le _, rfl, Fill.start wq _ k hn.2⟩
          case round =>
            obtain ⟨j, hj, rfl, hfill⟩ := hrel
            have hfx := hfill.ext
            have b0 := cell_later hfx a0
            have b1 := cell_later hfx a1
            have b2 := cell_later hfx a2
            have cr2 := cell_later hfx cr
            by_cases hltj : j < k
            · obtain ⟨v0, hv0⟩ := hfill.cell hj hltj
              have hfr := hfill.free j
              have i2 : (0 : Int) ≤ (j : Int) := by omega
              have i3 : (j : Int) < (k : Int) := by omega
              have HAT := Lib.hid (at_any ar kr xs j wr (HXS.out.ext hfx))
              have hmd := mod_any (xs.getD j 0) 2 wr (by decide) (by decide)
              obtain ⟨q, hq⟩ : ∃ q, modI (xs.getD j 0) 2 = q := ⟨_, rfl⟩
              obtain ⟨y, hy⟩ : ∃ y, xs.getD j 0 = y := ⟨_, rfl⟩
              rw [hq] at hmd
              rw [hy] at HAT hmd
              have hset := hfill.set hltj
              rw [hq] at hset
              have HSET := Lib.hid hset
              have HMD := Lib.hid hmd
              clear hset hmd hq hy hfill hfx
              go_wp2_with (first | (go_at_call 26; refine HAT.out.mono ?_; rintro e w' ⟨rfl, rfl⟩) | (go_at_call 25; refine HMD.out.mono ?_; rintro e w' ⟨rfl, rfl⟩))
              go_roundw
              case rel => exact ⟨j + 1, by omega, by go_num, HSET.out⟩
              case measure => simp [intOf]; omega
            · obtain rfl : j = k := by omega
              have hrow := hfill.row
              have HROW_lt : wq.heap.size < wr.drew.heap.size := (hfill.own.lt _ rfl).2
              have hrt : (List.range j).map (fun i => modI (xs.getD i 0) 2) = tameRow C t := by unfold tameRow; rw [HNE.out, HGXS.out]
              rw [hrt] at hrow
              have hrl : (tameRow C t).length = j := by unfold tameRow; rw [HNE.out]; simp
              have HROW := Lib.hid hrow
              have HRL := Lib.hid hrl
              have HFX := Lib.hid hfx
              have hoc2 := HOC.out.ext hfx
              have HOC2 := Lib.hid hoc2
              obtain ⟨d0, d1, d2⟩ := cells3 (heap_ext HH4.out hfx)
              have fb := free_heap (heap_ext HH4.out hfx)
              have hats := at_any oc xc C.cs t wr.drew ((HC.out.ext HX.out).ext (hfx.trans (Ext.drew _)))
              obtain ⟨y, hy⟩ : ∃ y, C.cs.getD t 0 = y := ⟨_, rfl⟩
              rw [hy] at hats
              have HY := Lib.hid hy
              have HATS := Lib.hid hats
              have hxe : IntKind.i64.wrap (1 + modI (IntKind.i64.wrap (y - 1)) 100) = 1 + modI (C.cs.getD t 0 - 1) 100 := by
                rw [modI_wrap, HY.out]
                have := modI_bd (y - 1) (n := 100) (by decide)
                exact IntWalk.i64_in _ (by omega)
              have hwith := (HOC2.out.ext (Ext.drew wr)).withC (ra := some ⟨wq.heap.size, 0, none⟩) (xs := tameRow C t) (x := 1 + modI (C.cs.getD t 0 - 1) 100) (nw := j) (nt := t) (nc := t) (rn := j) (rk := j)
                ⟨(HROW.out.ext (Ext.drew wr)), fun b o e => by
                  cases e
                  refine ⟨HROW_lt, fun e => ?_, fun e => ?_⟩
                  · have := (HOC.out.ot.lt _ e.symm).2; omega
                  · have := (HOC.out.oc.lt _ e.symm).2; omega⟩ (by rw [HRL.out]; exact Nat.le_refl _) (by have := hfx.size; show w.heap.size + 3 ≤ wr.heap.size; omega) (by rw [(tameTo_len C t 0).1, HNE.out]) (by rw [(tameTo_len C t 0).2.1]; rfl) (by rw [(tameTo_len C t 0).2.2]; rfl) HRL.out.symm (by omega) (by omega)
              rw [← tameTo_t] at hwith
              have HWITH := Lib.hid hwith
              have HXE := Lib.hid hxe
              have hb4 := heap_ext HH4.out (hfx.trans (Ext.drew wr))
              have HB4 := Lib.hid hb4
              have HB1 := Lib.hid (heap_ext HH1.out (hfx.trans (Ext.drew wr)))
              have HB2 := Lib.hid (heap_ext HH2.out (hfx.trans (Ext.drew wr)))
              have HXW := Lib.hid (HX.out.trans (hfx.trans (Ext.drew wr)))
              clear hrow hrt hrl hoc2 hfill hats hy cr2 cr hxe hwith hb4
              go_wp2_with fail
              go_region_with (first | (go_at_call 26; refine HATS.out.mono ?_; rintro e w' ⟨rfl, rfl⟩) | (go_at_call 25; refine (mod_any _ 100 _ (by decide) (by decide)).mono ?_; rintro e w' ⟨rfl, rfl⟩) | (go_at_call 27; rw [HXE.out]; refine HWITH.out.mono ?_; rintro e w5 ⟨gt, gc, kt', kc', rv', rfl, hoc5, hb5⟩; have hbx5 := below_heap hb5 (by omega) HB4.out; obtain ⟨e0, e1, e2⟩ := cells3 hbx5; have ez := free_heap hbx5))
              all_goals
                clear e0 e1 e2 ez
                have hB1 := below_heap hb5 (by omega) HB1.out
                have hB2 := below_heap hb5 (by omega) HB2.out
                have HOC5 := Lib.hid hoc5
                have HBX5 := Lib.hid hbx5
                have HBB1 := Lib.hid hB1
                have HBB2 := Lib.hid hB2
                have HXF := Lib.hid (HXW.out.below hb5 (by omega))
                clear hoc5 hbx5 hB1 hB2 hb5
                go_wp2_with fail
                go_roundw
                case rel =>
                  obtain ⟨f1, f2⟩ := HOC5.out.box3 (b := w.heap.size + 1 + 1) (c0 := aw) (m0 := j) (l0 := kw) (c1 := some ⟨gt, 0, none⟩) (m1 := t + 1) (l1 := kt') (c2 := some ⟨gc, 0, none⟩) (m2 := t + 1) (l2 := kc') (by omega) HBX5.out
                  exact ⟨t + 1, aw, some ⟨gt, 0, none⟩, some ⟨gc, 0, none⟩, kw, kt', kc', rv', by omega, by omega, by go_num, ((((OExt.of_ext HXF.out none none).set (by omega)).set (by omega)).set (by omega)).to (Ext.refl w) (fun k h => by cases h) (fun k h => by cases h),
                    heap_set_other (heap_set_other (heap_set_other HBB1.out (by simp; omega)) (by simp; omega)) (by simp; omega), heap_set_other (heap_set_other (heap_set_other HBB2.out (by simp)) (by simp)) (by simp), f2, f1⟩
                case measure => simp [intOf]; omega
        · have htm : t = min C.ts.length 6 := by omega
          have HTM := Lib.hid htm
          clear htm
          obtain ⟨m, hm⟩ : ∃ m, m = t := ⟨_, rfl⟩
          subst hm
          by_cases hg1 : (m : Int) < (C.ts.length : Int)
          case' pos => have hg2 : ¬ (m : Int) < 6 := by omega
          case' neg => have hg2 : True := trivial
          all_goals
            go_wp2_with fail
            go_loopw [11] (fun i wr => ∃ (b : Nat) (aw at_ ac : Option Addr) (kw kt kc : Nat) (rv : List Value), b ≤ 4 ∧ i = .int .i64 b ∧ Ext w wr ∧ wr.heap[w.heap.size]? = some (.cells #[.slice ow C.ws.length xw, .slice ot C.ts.length xt, .slice oc C.cs.length xc] 25 (0, 0)) ∧
                wr.heap[w.heap.size + 1]? = some (.cells #[.slice none 0 0, .slice none 0 0, .slice none 0 0] 25 (0, 0)) ∧ wr.heap[w.heap.size + 1 + 1]? = some (.cells #[.slice aw k kw, .slice at_ (m + b) kt, .slice ac (m + b) kc] 25 (0, 0)) ∧
                OC wr (w.heap.size + 3) (tameTo C m b) aw at_ ac kw kt kc rv) (fun i _ => 4 - (intOf i).toNat)
            case atStart => exact ⟨0, aw, at_, ac, kw, kt, kc, rv, Nat.zero_le _, rfl, HX.out, HH1.out, HH2.out, HH4.out, HOC.out⟩
            case round =>
              clear HX HH1 HH2 HH4 HOC a0 a1 a2
              obtain ⟨b, aw, at_, ac, kw, kt, kc, rv, hb4, rfl, hx, h1, h2, h4, hoc⟩ := hrel
              obtain ⟨a0, a1, a2⟩ := cells3 h1
              have HOC := Lib.hid hoc
              have HX := Lib.hid hx
              have HH1 := Lib.hid h1
              have HH2 := Lib.hid h2
              have HH4 := Lib.hid h4
              have hsz := heap_lt h4
              clear hx h1 h2 h4 hoc
              by_cases hlb : b < 4
              · have hmk : ∀ w : World, (Instr.makeSlice 22 (.int .i64 (k : Int)) (.int .i64 (k : Int))).run Tryd.prog w = .ok (.slice (some ⟨w.heap.size, 0, none⟩) k k) (w.alloc (.cells (madeCells #[.int .i64 0] k) 3)) := by
                  intro w
                  have := run_make (P := Tryd.prog) w 22 3 i1 (.int .i64 0) Tryd.underlying22 hi1 hz10 .i64 .i64 k k (by omega) (Int.le_refl _) (by rw [hz12]; omega) (by omega)
                  simpa [hz11, Value.cells] using this
                go_wp2_with fail
                obtain ⟨wq, hwq⟩ : ∃ wq, wq = wr := ⟨_, rfl⟩
                subst hwq
                go_loopw [13] (fun i w2 => ∃ j : Nat, j ≤ k ∧ i = .int .i64 j ∧ Fill wq w2 (fun i => ((i / 2 ^ b % 2 : Nat) : Int)) k j) (fun i _ => k - (intOf i).toNat)
                case atStart => exact ⟨0, Nat.zero_le _, rfl, Fill.start wq _ k hn.2⟩
                case round =>
                  obtain ⟨j, hj, rfl, hfill⟩ := hrel
                  have hfx := hfill.ext
                  have b0 := cell_later hfx a0
                  have b1 := cell_later hfx a1
                  have b2 := cell_later hfx a2
                  by_cases hltj : j < k
                  · obtain ⟨v0, hv0⟩ := hfill.cell hj hltj
                    have hfr := hfill.free j
                    have i2 : (0 : Int) ≤ (j : Int) := by omega
                    have i3 : (j : Int) < (k : Int) := by omega
                    have hset := hfill.set hltj
                    rw [← bit_eq j b] at hset
                    have HSET := Lib.hid hset
                    clear hset hfill hfx
                    go_wp2_with fail
                    go_roundw
                    case rel => exact ⟨j + 1, by omega, by go_num, HSET.out⟩
                    case measure => simp [intOf]; omega
                  · obtain rfl : j = k := by omega
                    have hrow := hfill.row
                    have HROW_lt : wq.heap.size < wr.drew.heap.size := (hfill.own.lt _ rfl).2
                    have hrt : (List.range j).map (fun i => ((i / 2 ^ b % 2 : Nat) : Int)) = bitRow (tameN C) b := by unfold bitRow; rw [HNE.out]
                    rw [hrt] at hrow
                    have hrl : (bitRow (tameN C) b).length = j := by unfold bitRow; rw [HNE.out]; simp
                    have HROW := Lib.hid hrow
                    have HRL := Lib.hid hrl
                    have HFX := Lib.hid hfx
                    have hoc2 := HOC.out.ext hfx
                    have HOC2 := Lib.hid hoc2
                    obtain ⟨d0, d1, d2⟩ := cells3 (heap_ext HH4.out hfx)
                    have fb := free_heap (heap_ext HH4.out hfx)
                    have hats := at_any oc xc C.cs b wr.drew ((HC.out.ext HX.out).ext (hfx.trans (Ext.drew _)))
                    obtain ⟨y, hy⟩ : ∃ y, C.cs.getD b 0 = y := ⟨_, rfl⟩
                    rw [hy] at hats
                    have HY := Lib.hid hy
                    have HATS := Lib.hid hats
                    have hxe : IntKind.i64.wrap (1 + modI y 100) = 1 + modI (C.cs.getD b 0) 100 := by
                      rw [HY.out]
                      have := modI_bd y (n := 100) (by decide)
                      exact IntWalk.i64_in _ (by omega)
                    have hwith := (HOC2.out.ext (Ext.drew wr)).withC (ra := some ⟨wq.heap.size, 0, none⟩) (xs := bitRow (tameN C) b) (x := 1 + modI (C.cs.getD b 0) 100) (nw := j) (nt := m + b) (nc := m + b) (rn := j) (rk := j)
                      ⟨(HROW.out.ext (Ext.drew wr)), fun b o e => by
                        cases e
                        refine ⟨HROW_lt, fun e => ?_, fun e => ?_⟩
                        · have := (HOC.out.ot.lt _ e.symm).2; omega
                        · have := (HOC.out.oc.lt _ e.symm).2; omega⟩ (by rw [HRL.out]; exact Nat.le_refl _) (by have := hfx.size; show w.heap.size + 3 ≤ wr.heap.size; omega) (by rw [(tameTo_len C m b).1, HNE.out]) (by rw [(tameTo_len C m b).2.1]) (by rw [(tameTo_len C m b).2.2]) HRL.out.symm (by omega) (by omega)
                    rw [← tameTo_b] at hwith
                    have HWITH := Lib.hid hwith
                    have HXE := Lib.hid hxe
                    have hb4 := heap_ext HH4.out (hfx.trans (Ext.drew wr))
                    have HB4 := Lib.hid hb4
                    have HB1 := Lib.hid (heap_ext HH1.out (hfx.trans (Ext.drew wr)))
                    have HB2 := Lib.hid (heap_ext HH2.out (hfx.trans (Ext.drew wr)))
                    have HXW := Lib.hid (HX.out.trans (hfx.trans (Ext.drew wr)))
                    clear hrow hrt hrl hoc2 hfill hats hy hxe hwith hb4
                    go_wp2_with fail
                    go_region_with (first | (go_at_call 26; refine HATS.out.mono ?_; rintro e w' ⟨rfl, rfl⟩) | (go_at_call 25; refine (mod_any _ 100 _ (by decide) (by decide)).mono ?_; rintro e w' ⟨rfl, rfl⟩) | (go_at_call 27; rw [HXE.out]; refine HWITH.out.mono ?_; rintro e w5 ⟨gt, gc, kt', kc', rv', rfl, hoc5, hb5⟩; have hbx5 := below_heap hb5 (by omega) HB4.out; obtain ⟨e0, e1, e2⟩ := cells3 hbx5; have ez := free_heap hbx5))
                    all_goals
                      clear e0 e1 e2 ez
                      have hB1 := below_heap hb5 (by omega) HB1.out
                      have hB2 := below_heap hb5 (by omega) HB2.out
                      have HOC5 := Lib.hid hoc5
                      have HBX5 := Lib.hid hbx5
                      have HBB1 := Lib.hid hB1
                      have HBB2 := Lib.hid hB2
                      have HXF := Lib.hid (HXW.out.below hb5 (by omega))
                      clear hoc5 hbx5 hB1 hB2 hb5
                      go_wp2_with fail
                      go_roundw
                      case rel =>
                        obtain ⟨f1, f2⟩ := HOC5.out.box3 (b := w.heap.size + 1 + 1) (c0 := aw) (m0 := j) (l0 := kw) (c1 := some ⟨gt, 0, none⟩) (m1 := m + b + 1) (l1 := kt') (c2 := some ⟨gc, 0, none⟩) (m2 := m + b + 1) (l2 := kc') (by omega) HBX5.out
                        exact ⟨b + 1, aw, some ⟨gt, 0, none⟩, some ⟨gc, 0, none⟩, kw, kt', kc', rv', by omega, by go_num, ((((OExt.of_ext HXF.out none none).set (by omega)).set (by omega)).set (by omega)).to (Ext.refl w) (fun k h => by cases h) (fun k h => by cases h),
                          heap_set_other (heap_set_other (heap_set_other HBB1.out (by simp; omega)) (by simp; omega)) (by simp; omega), heap_set_other (heap_set_other (heap_set_other HBB2.out (by simp)) (by simp)) (by simp), f2, f1⟩
                      case measure => simp [intOf]; omega
              · obtain rfl : b = 4 := by omega
                obtain ⟨t0, t1, t2⟩ := cells3 HH4.out
                obtain ⟨s0, s1, s2⟩ := cells3 HH2.out
                have sz := free_heap HH2.out
                have h2 := (HOC.out.base (show w.heap.size + 2 ≤ w.heap.size + 3 by omega)).box3 (b := w.heap.size + 1) (c0 := aw) (m0 := k) (l0 := kw) (c1 := at_) (m1 := m + 4) (l1 := kt) (c2 := ac) (m2 := m + 4) (l2 := kc) (by omega) HH2.out
                have H2F := Lib.hid h2
                clear h2
                go_wp2_with fail
                obtain ⟨f1, f2⟩ := H2F.out
                obtain ⟨r0, r1, r2⟩ := cells3 f2
                have hd : tameTo C m 4 = tameD C := by unfold tameD; rw [← HTM.out]
                have l1 := (tameTo_len C m 4).1
                rw [HNE.out] at l1
                have l2 := (tameTo_len C m 4).2.1
                have l3 := (tameTo_len C m 4).2.2
                rw [hd] at f1 l1 l2 l3
                refine bodyPost_ret (v := .agg #[.slice aw k kw, .slice at_ (m + 4) kt, .slice ac (m + 4) kc]) (by simp [results, Tryd.results20, go_sem, r0, r1, r2]) rfl ⟨aw, at_, ac, kw, kt, kc, rv, ?_, f1.base (by omega), ?_⟩
                · rw [l1, l2, l3]
                · exact (((OExt.of_ext HX.out none none).set (by omega)).set (by omega)).set (by omega) |>.to (Ext.refl w) (fun k h => by cases h) (fun k h => by cases h)
end Go.Proofs.YtdbendnfgkonbaaDoor
