/- Contracts: isPlan and its closure. -/
import Derived.Test.YtdbendnfgkonbaaDoorNodes
import Derived.Test.YtdbendnfgkonbaaDoorIntMaps
import Derived.Test.YtdbendnfgkonbaaDoorDivides
import Derived.Laws.EntriesVeiled
namespace Go.Proofs.YtdbendnfgkonbaaDoor
open Go.RowKit
set_option linter.unusedVariables false
set_option linter.unusedSimpArgs false

def enterB (len : Nat) (used : List Int) (i : Nat) (z : Int) : Bool := inR z ((i : Int) + 1) ((len : Int) - 1) && !(used.contains z)
/-- The map holds just these numbers. -/
def UsedAt (M : List (Int × Value)) (used : List Int) : Prop := (∀ r, lookM M r = if used.contains r then some (.bool true) else none) ∧ M.length = used.length
theorem UsedAt.nil : UsedAt [] [] := ⟨fun r => by simp [lookM], rfl⟩
theorem UsedAt.add {M : List (Int × Value)} {used : List Int} (h : UsedAt M used) {z : Int} (hz : used.contains z = false) : UsedAt (upsM M z (.bool true)) (z :: used) := by
  refine ⟨fun r => ?_, ?_⟩
  · rw [lookM_ups, h.1 r, List.contains_cons]
    by_cases e : r = z
    · subst e; simp
    · have : (r == z) = false := by simpa using e
      simp [e, this]
  · rw [upsM_length, h.1 z, hz, h.2]
    rfl

theorem enter_any (z : Int) (i len k g : Nat) (a : Option Addr) (PB MB : Addr) (M : List (Int × Value)) (used : List Int) (w : World) (hi : i ≤ 1000) (hl : len ≤ 1000) (hp : w.cell? PB = some (.slice a len k)) (hm : w.cell? MB = some (.map (some g)))
    (hM : MapAt w g .i64 M) (hU : UsedAt M used) :
    Calls Tryd.prog 74 #[.int .i64 z, .int .i64 (i : Int), .pointer (some PB), .pointer (some MB)] w fun e w' => e = .returned (.bool (enterB len used i z)) ∧ MapAt w' g .i64 (upsM M z (.bool true)) ∧ w.grownBy w' (some g) := by
  have hlook := run_lookup_at (w := w) Tryd.underlying91 Tryd.underlying3 hM (zero_bool w) z
  rw [hU.1 z] at hlook
  have HU := Lib.hid hU
  clear hU
  cases hin : inR z ((i : Int) + 1) ((len : Int) - 1) with
  | false =>
    have hr : enterB len used i z = false := by unfold enterB; rw [hin]; rfl
    rw [hr]
    clear hr hlook
    go_enter Tryd.func74, Tryd.ntmps74
    go_wp2_with (first | (go_at_call 49; refine (within_any _ _ _ _).mono ?_; rintro e w' ⟨rfl, rfl⟩) | (at_mapUpdate; refine wpList_update_int _ rfl _ _ _ 91 rfl 3 4 .i64 Tryd.underlying91 Tryd.underlying3 g M rfl hM z _ rfl rfl ?_))
    intro w4 hM4 hgrow
    go_wp2_with fail
    go_ret
    exact ⟨rfl, hM4, hgrow⟩
  | true =>
    cases hc : used.contains z with
    | true =>
      rw [hc] at hlook
      have hr : enterB len used i z = false := by unfold enterB; rw [hin, hc]; rfl
      rw [hr]
      clear hr hc
      go_enter Tryd.func74, Tryd.ntmps74
      go_wp2_with (first | (go_at_call 49; refine (within_any _ _ _ _).mono ?_; rintro e w' ⟨rfl, rfl⟩) | (at_mapUpdate; refine wpList_update_int _ rfl _ _ _ 91 rfl 3 4 .i64 Tryd.underlying91 Tryd.underlying3 g M rfl hM z _ rfl rfl ?_))
      intro w4 hM4 hgrow
      go_wp2_with fail
      go_ret
      exact ⟨rfl, hM4, hgrow⟩
    | false =>
      rw [hc] at hlook
      have hr : enterB len used i z = true := by unfold enterB; rw [hin, hc]; rfl
      rw [hr]
      clear hr hc
      go_enter Tryd.func74, Tryd.ntmps74
      go_wp2_with (first | (go_at_call 49; refine (within_any _ _ _ _).mono ?_; rintro e w' ⟨rfl, rfl⟩) | (at_mapUpdate; refine wpList_update_int _ rfl _ _ _ 91 rfl 3 4 .i64 Tryd.underlying91 Tryd.underlying3 g M rfl hM z _ rfl rfl ?_))
      intro w4 hM4 hgrow
      go_wp2_with fail
      go_ret
      exact ⟨rfl, hM4, hgrow⟩

def nodeStep (n T len i : Nat) (x : NodeD) (used : List Int) : Option (List Int) :=
  if x.test = -1 then (if x.zero = 0 ∧ x.one = 0 ∧ inR x.fault 0 ((n : Int) - 1) = true then some used else none)
  else if inR x.test 0 ((T : Int) - 1) = true ∧ x.fault = 0 ∧ enterB len used i x.zero = true ∧ enterB len (x.zero :: used) i x.one = true then some (x.one :: x.zero :: used) else none
def planTo (n T : Nat) (l : List NodeD) : Nat → Option (List Int)
  | 0 => some []
  | k + 1 => (planTo n T l k).bind (nodeStep n T l.length k (l.getD k default))
def isPlanB (n T : Nat) (l : List NodeD) : Bool :=
  inR l.length 1 1000 && (match planTo n T l l.length with
    | some u => (u.length : Int) == (l.length : Int) - 1
    | none => false)
theorem planTo_none {n T : Nat} {l : List NodeD} {k : Nat} (h : planTo n T l k = none) : ∀ d, planTo n T l (k + d) = none
  | 0 => h
  | d + 1 => by
    show (planTo n T l (k + d)).bind _ = none
    rw [planTo_none h d]
    rfl
theorem isPlan_no {n T : Nat} {l : List NodeD} {k : Nat} (hk : k < l.length) {u : List Int} (hu : planTo n T l k = some u) {x : NodeD} (hx : l[k]? = some x) (hs : nodeStep n T l.length k x u = none) : isPlanB n T l = false := by
  have h1 : planTo n T l (k + 1) = none := by
    show (planTo n T l k).bind _ = none
    have : l.getD k default = x := by rw [List.getD_eq_getElem?_getD, hx]; rfl
    rw [hu, this]
    exact hs
  have h2 := planTo_none h1 (l.length - (k + 1))
  rw [show k + 1 + (l.length - (k + 1)) = l.length by omega] at h2
  unfold isPlanB
  rw [h2]
  simp
theorem planTo_step {n T : Nat} {l : List NodeD} {k : Nat} {u u' : List Int} (hu : planTo n T l k = some u) {x : NodeD} (hx : l[k]? = some x) (hs : nodeStep n T l.length k x u = some u') : planTo n T l (k + 1) = some u' := by
  show (planTo n T l k).bind _ = some u'
  have : l.getD k default = x := by rw [List.getD_eq_getElem?_getD, hx]; rfl
  rw [hu, this]
  exact hs

theorem enter_isPlan (args : Array Value) (w : World) : (callFunc 74 args).run Tryd.prog w = .ok (.enter 74 args) w := by rfl

theorem allocs4 (w : World) (a b c d : Obj) : ∃ w4, ((((w.alloc a).alloc b).alloc c).alloc d) = w4 ∧ w4.heap[w.heap.size]? = some a ∧ w4.heap[w.heap.size + 1]? = some b ∧ w4.heap[w.heap.size + 1 + 1]? = some c ∧ w4.heap[w.heap.size + 1 + 1 + 1]? = some d ∧ Ext w w4 := by
  refine ⟨_, rfl, ?_, ?_, ?_, ?_, ?_⟩
  · exact heap_alloc (heap_alloc (heap_alloc (heap_alloc_new _ _)))
  · exact heap_alloc (heap_alloc (by have := heap_alloc_new (w.alloc a) b; simpa only [wsize_alloc] using this))
  · exact heap_alloc (by have := heap_alloc_new ((w.alloc a).alloc b) c; simpa only [wsize_alloc] using this)
  · have := heap_alloc_new (((w.alloc a).alloc b).alloc c) d
    simpa only [wsize_alloc] using this
  · exact (((Ext.alloc _ _).trans (Ext.alloc _ _)).trans (Ext.alloc _ _)).trans (Ext.alloc _ _)

theorem cells4 {w : World} {b : Nat} {x0 x1 x2 x3 : Value} {t : TypeId} {fr : Nat × Nat} (h : w.heap[b]? = some (.cells #[x0, x1, x2, x3] t fr)) :
    w.cell? ⟨b, 0, none⟩ = some x0 ∧ w.cell? ⟨b, 1, none⟩ = some x1 ∧ w.cell? ⟨b, 2, none⟩ = some x2 ∧ w.cell? ⟨b, 3, none⟩ = some x3 := ⟨cell_heap h 0, cell_heap h 1, cell_heap h 2, cell_heap h 3⟩

/-- What isPlan's loop keeps. -/
structure IPInv (w wr : World) (aw at_ ac ao a : Option Addr) (nw kw T kt ncs kc ko all n k : Nat) (M : List (Int × Value)) : Prop where
  ext : Ext w wr
  b0 : wr.heap[w.heap.size]? = some (.cells #[.slice aw nw kw, .slice at_ T kt, .slice ac ncs kc, .slice ao T ko, .int .u64 (all : Int)] 67 (0, 0))
  b1 : wr.heap[w.heap.size + 1]? = some (.cells #[.slice a n k] 27 (0, 0))
  b3 : wr.heap[w.heap.size + 1 + 1 + 1]? = some (.cells #[.map (some (w.heap.size + 1 + 1))] 91 (0, 0))
  map : MapAt wr (w.heap.size + 1 + 1) .i64 M
theorem IPInv.later {w wr wq : World} {aw at_ ac ao a : Option Addr} {nw kw T kt ncs kc ko all n k : Nat} {M : List (Int × Value)} (h : IPInv w wr aw at_ ac ao a nw kw T kt ncs kc ko all n k M) (hx : Ext wr wq) : IPInv w wq aw at_ ac ao a nw kw T kt ncs kc ko all n k M :=
  ⟨h.ext.trans hx, heap_ext h.b0 hx, heap_ext h.b1 hx, heap_ext h.b3 hx, h.map.ext hx⟩
theorem IPInv.grown {w wr wq : World} {aw at_ ac ao a : Option Addr} {nw kw T kt ncs kc ko all n k : Nat} {M M' : List (Int × Value)} (h : IPInv w wr aw at_ ac ao a nw kw T kt ncs kc ko all n k M) (hg : wr.grownBy wq (some (w.heap.size + 1 + 1))) (hM : MapAt wq (w.heap.size + 1 + 1) .i64 M') : IPInv w wq aw at_ ac ao a nw kw T kt ncs kc ko all n k M' := by
  have keep : ∀ b o, b ≠ w.heap.size + 1 + 1 → wr.heap[b]? = some o → wq.heap[b]? = some o := fun b o hb ho => (hg.block b (heap_lt ho) (fun e => hb (Option.some.inj e))).trans ho
  exact ⟨h.ext.grown hg h.ext.size (fun k hk => by cases hk; omega), keep _ _ (by omega) h.b0, keep _ _ (by omega) h.b1, keep _ _ (by omega) h.b3, hM⟩

set_option maxRecDepth 8000 in
set_option maxHeartbeats 4000000 in
theorem isPlan_any (tv : Value) (C : CaseD) (a : Option Addr) (n k : Nat) (l : List NodeD) (w : World) (hT : TrialAt w tv C) (hok : caseOk C = true) (hn : n = l.length) (hl : NodesAt w a l) (hlen : l.length ≤ 100000) :
    Calls Tryd.prog 66 #[tv, .slice a n k] w fun e w' => e = .returned (.bool (isPlanB C.ws.length C.ts.length l)) ∧ Ext w w' := by
  obtain ⟨aw, at_, ac, ao, kw, kt, kc, ko, rfl, h1, h2, h3, h4, hw, ht, hc, hu⟩ := hT
  have hn10 := caseOk_n hok
  have hts := caseOk_ts hok
  obtain ⟨nw, hnw⟩ : ∃ nw, C.ws.length = nw := ⟨_, rfl⟩
  obtain ⟨T, hT⟩ : ∃ T, C.ts.length = T := ⟨_, rfl⟩
  unfold trialV
  rw [hnw, hT]
  rw [hnw] at hn10
  rw [hT] at hts
  have HN := Lib.hid hn
  rw [← hn] at hlen
  obtain ⟨all, hall⟩ : ∃ all : Nat, 2 ^ nw - 1 = all := ⟨_, rfl⟩
  rw [hall]
  obtain ⟨ncs, hncs⟩ : ∃ ncs, C.cs.length = ncs := ⟨_, rfl⟩
  rw [hncs]
  have HL := Lib.hid hl
  obtain ⟨hn1, hn10⟩ := hn10
  clear hnw hT hall hncs hn hl hok hw ht hc hu h1 h2 h3 h4
  have hmm := @run_makeMap Tryd.prog
  cases hin : inR (n : Int) 1 1000 with
  | false =>
    have hr : isPlanB nw T l = false := by unfold isPlanB; rw [← HN.out, hin]; rfl
    rw [hr]
    clear hr
    go_enter Tryd.func66, Tryd.ntmps66
    go_wp2_with (go_at_call 49; refine (within_any _ _ _ _).mono ?_; rintro e w' ⟨rfl, rfl⟩)
    go_ret
    exact ⟨rfl, (Ext.alloc _ _).trans (Ext.alloc _ _)⟩
  | true =>
    have hnb := (inR_iff _ _ _).1 hin
    have HIN := Lib.hid hin
    go_enter Tryd.func66, Tryd.ntmps66
    go_wp2_with (go_at_call 49; refine (within_any _ _ _ _).mono ?_; rintro e w' ⟨rfl, rfl⟩)
    obtain ⟨w4, hw4, q0, q1, q2, q3, hx4⟩ := allocs4 w (.cells #[.slice aw nw kw, .slice at_ T kt, .slice ac ncs kc, .slice ao T ko, .int .u64 (all : Int)] 67) (.cells #[.slice a n k] 27) (.map #[] 0) (.cells #[.map (some (w.heap.size + 1 + 1))] 91)
    have hinv : IPInv w w4 aw at_ ac ao a nw kw T kt ncs kc ko all n k [] := ⟨hx4, q0, q1, q3, ⟨#[], 0, q2, rfl⟩⟩
    rw [hw4]
    have HINV := Lib.hid hinv
    clear hinv q0 q1 q2 q3 hx4 hw4 hmm
    go_loopw [17] (fun i wr => ∃ (j : Nat) (M : List (Int × Value)) (used : List Int), j ≤ n ∧ i = .int .i64 j ∧ planTo nw T l j = some used ∧ UsedAt M used ∧ IPInv w wr aw at_ ac ao a nw kw T kt ncs kc ko all n k M) (fun i _ => n - (intOf i).toNat)
    case atStart => exact ⟨0, [], [], Nat.zero_le _, rfl, rfl, UsedAt.nil, HINV.out⟩
    case round =>
      clear HINV
      obtain ⟨j, M, used, hj, rfl, hpt, hus, hinv⟩ := hrel
      have HPT := Lib.hid hpt
      have HUS := Lib.hid hus
      have HINV := Lib.hid hinv
      clear hpt hus hinv
      by_cases hlt : j < n
      · obtain ⟨b, off, x, rfl, e0, e1, e2, e3, hx⟩ := (HL.out.ext HINV.out.ext).get (i := j) (by rw [← HN.out]; exact hlt)
        have hlj : j < l.length := by rw [← HN.out]; exact hlt
        have hno := fun h => isPlan_no (n := nw) (T := T) hlj HPT.out hx.out h
        have hyes := fun u' h => planTo_step (n := nw) (T := T) (u' := u') HPT.out hx.out h
        rw [← HN.out] at hno hyes
        obtain ⟨xt, xf, xz, xo⟩ := x
        dsimp only at e0 e1 e2 e3
        have HNO := Lib.hid hno
        have HYES := Lib.hid hyes
        clear hno hyes hx
        obtain ⟨c0, c1, c2, c3, c4⟩ := cells5 HINV.out.b0
        have cs := cells1 HINV.out.b1
        have cm := cells1 HINV.out.b3
        have z0 := heap_lt HINV.out.b0
        have z1 := heap_lt HINV.out.b1
        have z3 := heap_lt HINV.out.b3
        by_cases ht1 : xt = -1
        · subst ht1
          by_cases hzo : xz = 0 ∧ xo = 0
          · obtain ⟨rfl, rfl⟩ := hzo
            have heq : ∀ w : World, (Op.equalIn 10000 45 (.agg #[.int .i64 (-1), .int .i64 xf, .int .i64 0, .int .i64 0]) (.agg #[.int .i64 (-1), .int .i64 xf, .int .i64 0, .int .i64 0])).run Tryd.prog w = .ok true w := fun w => by rw [eqNode]; simp
            cases hfi : inR xf 0 ((nw : Int) - 1) with
            | false =>
              have hr : isPlanB nw T l = false := HNO.out (by unfold nodeStep; rw [if_pos rfl, if_neg (by rintro ⟨_, _, h⟩; rw [hfi] at h; cases h)])
              have HR := Lib.hid hr
              clear hr
              go_wp2_with (go_at_call 49; refine (within_any _ _ _ _).mono ?_; rintro e w' ⟨rfl, rfl⟩)
              go_ret
              exact ⟨ret_eq (by rw [HR.out]; rfl), HINV.out.ext.trans (Ext.alloc _ _)⟩
            | true =>
              have hst := HYES.out used (by unfold nodeStep; rw [if_pos rfl, if_pos ⟨rfl, rfl, hfi⟩])
              have HST := Lib.hid hst
              clear hst
              go_wp2_with (go_at_call 49; refine (within_any _ _ _ _).mono ?_; rintro e w' ⟨rfl, rfl⟩)
              go_roundw
              case rel => exact ⟨j + 1, M, used, by omega, by go_num, HST.out, HUS.out, HINV.out.later (Ext.alloc _ _)⟩
              case measure => simp [intOf]; omega
          · have hr : isPlanB nw T l = false := HNO.out (by unfold nodeStep; rw [if_pos rfl, if_neg (by rintro ⟨h1, h2, _⟩; exact hzo ⟨h1, h2⟩)])
            have heq : ∀ w : World, (Op.equalIn 10000 45 (.agg #[.int .i64 (-1), .int .i64 xf, .int .i64 xz, .int .i64 xo]) (.agg #[.int .i64 (-1), .int .i64 xf, .int .i64 0, .int .i64 0])).run Tryd.prog w = .ok false w := fun w => by
              rw [eqNode]
              congr 1
              rw [Bool.eq_false_iff]
              simp only [ne_eq, Bool.and_eq_true, beq_iff_eq, not_and]
              intro _ _ h1 h2
              exact hzo ⟨h1, h2⟩
            have HR := Lib.hid hr
            clear hr hzo
            go_wp2_with (go_at_call 49; refine (within_any _ _ _ _).mono ?_; rintro e w' ⟨rfl, rfl⟩)
            go_ret
            exact ⟨ret_eq (by rw [HR.out]; rfl), HINV.out.ext.trans (Ext.alloc _ _)⟩
        · cases hti : inR xt 0 ((T : Int) - 1) with
          | false =>
            have hr : isPlanB nw T l = false := HNO.out (by unfold nodeStep; rw [if_neg ht1, if_neg (by rintro ⟨h, _⟩; rw [hti] at h; cases h)])
            have HR := Lib.hid hr
            have htb : (xt == -1) = false := by simpa using ht1
            clear hr ht1
            go_wp2_with (go_at_call 49; refine (within_any _ _ _ _).mono ?_; rintro e w' ⟨rfl, rfl⟩)
            go_ret
            exact ⟨ret_eq (by rw [HR.out]; rfl), HINV.out.ext.trans (Ext.alloc _ _)⟩
          | true =>
            have htb : (xt == -1) = false := by simpa using ht1
            have HT1 := Lib.hid ht1
            have HTI := Lib.hid hti
            clear ht1
            by_cases hf0 : xf = 0
            · subst hf0
              have hx1 := Ext.alloc wr (.cells #[.int .i64 xt, .int .i64 0, .int .i64 xz, .int .i64 xo] 45)
              have hnb1 := heap_alloc_new wr (.cells #[.int .i64 xt, .int .i64 0, .int .i64 xz, .int .i64 xo] 45)
              have hinv1 := HINV.out.later hx1
              have hcall : ∀ z M' used' w', UsedAt M' used' → IPInv w w' aw at_ ac ao (some ⟨b, off, none⟩) nw kw T kt ncs kc ko all n k M' → Calls Tryd.prog 74 #[.int .i64 z, .int .i64 (j : Int), .pointer (some ⟨w.heap.size + 1, 0, none⟩), .pointer (some ⟨w.heap.size + 1 + 1 + 1, 0, none⟩)] w' fun e w'' =>
                  e = .returned (.bool (enterB n used' j z)) ∧ MapAt w'' (w.heap.size + 1 + 1) .i64 (upsM M' z (.bool true)) ∧ w'.grownBy w'' (some (w.heap.size + 1 + 1)) := fun z M' used' w' hu hi =>
                enter_any z j n k _ _ _ _ M' used' w' (by omega) (by omega) (cells1 hi.b1) (cells1 hi.b3) hi.map hu
              have HCALL := Lib.hid hcall
              have HINV1 := Lib.hid hinv1
              have HNB1 := Lib.hid hnb1
              clear hcall hinv1 hx1 hnb1
              go_wp2_with (go_at_call 49; refine (within_any _ _ _ _).mono ?_; rintro e w' ⟨rfl, rfl⟩)
              refine (HCALL.out xz M used _ HUS.out HINV1.out).mono ?_
              rintro e w5 ⟨rfl, hM5, hg5⟩
              have hinv5 := HINV1.out.grown hg5 hM5
              have hnb5 := (hg5.block wr.heap.size (heap_lt HNB1.out) (by intro e; have := Option.some.inj e; omega)).trans HNB1.out
              have HINV5 := Lib.hid hinv5
              have HNB5 := Lib.hid hnb5
              clear hM5 hg5 hinv5 hnb5
              cases hez : enterB n used j xz with
              | false =>
                have hr : isPlanB nw T l = false := HNO.out (by unfold nodeStep; rw [if_neg HT1.out, if_neg (by rintro ⟨_, _, h, _⟩; rw [hez] at h; cases h)])
                have HR := Lib.hid hr
                clear hr hez
                go_wp2_with fail
                go_ret
                exact ⟨ret_eq (by rw [HR.out]; rfl), HINV5.out.ext⟩
              | true =>
                have HEZ := Lib.hid hez
                have hcz : used.contains xz = false := by
                  unfold enterB at hez
                  simp only [Bool.and_eq_true, Bool.not_eq_true'] at hez
                  exact hez.2
                have hus5 := HUS.out.add hcz
                have HUS5 := Lib.hid hus5
                obtain ⟨n0, n1, n2, n3⟩ := cells4 HNB5.out
                clear hez hcz hus5
                go_wp2_with fail
                refine (HCALL.out xo _ _ _ HUS5.out HINV5.out).mono ?_
                rintro e w6 ⟨rfl, hM6, hg6⟩
                have HINV6 := Lib.hid (HINV5.out.grown hg6 hM6)
                clear hM6 hg6 n0 n1 n2 n3
                cases heo : enterB n (xz :: used) j xo with
                | false =>
                  have hr : isPlanB nw T l = false := HNO.out (by unfold nodeStep; rw [if_neg HT1.out, if_neg (by rintro ⟨_, _, _, h⟩; rw [heo] at h; cases h)])
                  have HR := Lib.hid hr
                  clear hr heo
                  go_wp2_with fail
                  go_ret
                  exact ⟨ret_eq (by rw [HR.out]; rfl), HINV6.out.ext⟩
                | true =>
                  have hco : (xz :: used).contains xo = false := by
                    unfold enterB at heo
                    simp only [Bool.and_eq_true, Bool.not_eq_true'] at heo
                    exact heo.2
                  have HUS6 := Lib.hid (HUS5.out.add hco)
                  have HST := Lib.hid (HYES.out (xo :: xz :: used) (by unfold nodeStep; rw [if_neg HT1.out, if_pos ⟨HTI.out, rfl, HEZ.out, heo⟩]))
                  clear hco heo
                  go_wp2_with fail
                  go_roundw
                  case rel => exact ⟨j + 1, _, _, by omega, by go_num, HST.out, HUS6.out, HINV6.out⟩
                  case measure => simp [intOf]; omega
            · have hr : isPlanB nw T l = false := HNO.out (by unfold nodeStep; rw [if_neg HT1.out, if_neg (by rintro ⟨_, h, _⟩; exact hf0 h)])
              have HR := Lib.hid hr
              have hfb : (xf != 0) = true := by simpa using hf0
              clear hr hf0
              go_wp2_with (go_at_call 49; refine (within_any _ _ _ _).mono ?_; rintro e w' ⟨rfl, rfl⟩)
              go_ret
              exact ⟨ret_eq (by rw [HR.out]; rfl), HINV.out.ext.trans (Ext.alloc _ _)⟩
      · obtain rfl : j = n := by omega
        have hml := HUS.out.2
        have hr : isPlanB nw T l = ((used.length : Int) == (j : Int) - 1) := by
          unfold isPlanB
          rw [← HN.out, HIN.out, HPT.out]
          rfl
        have HR := Lib.hid hr
        have hMl := HINV.out.map
        obtain ⟨es, clock, hes, hmap⟩ := hMl
        have hesl : es.size = used.length := by
          have := congrArg List.length hmap
          simpa [hml] using this
        have c1 := cells1 HINV.out.b1
        have c3 := cells1 HINV.out.b3
        have hlen : (Builtin.len_ #[91] 3 #[.map (some (w.heap.size + 1 + 1))]).run Tryd.prog wr = .ok (.int .i64 (used.length : Int)) wr := by
          rw [← hesl]
          simp [Builtin.len_, run_underlying Tryd.underlying91, MapKept.run_getObj_map hes, goInt, Result.andThen]
        clear hr hmap hml hes hesl
        go_wp2_with fail
        go_ret
        exact ⟨ret_eq (by rw [HR.out]; rfl), HINV.out.ext⟩
end Go.Proofs.YtdbendnfgkonbaaDoor
