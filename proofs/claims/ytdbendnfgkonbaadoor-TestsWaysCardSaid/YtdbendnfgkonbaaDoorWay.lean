/- Contract: way. -/
import Derived.Test.YtdbendnfgkonbaaDoorIsPlan
import Derived.Test.YtdbendnfgkonbaaDoorCover
namespace Go.Proofs.YtdbendnfgkonbaaDoor
open Go.RowKit
set_option linter.unusedVariables false
set_option linter.unusedSimpArgs false

def NodeV (n T len k : Nat) (x : NodeD) : Prop :=
  (x.test = -1 ∧ x.zero = 0 ∧ x.one = 0 ∧ 0 ≤ x.fault ∧ x.fault < n) ∨ (0 ≤ x.test ∧ x.test < T ∧ x.fault = 0 ∧ (k : Int) < x.zero ∧ x.zero < len ∧ (k : Int) < x.one ∧ x.one < len)
theorem nodeStep_valid {n T len k : Nat} {x : NodeD} {u u' : List Int} (h : nodeStep n T len k x u = some u') : NodeV n T len k x := by
  unfold nodeStep at h
  by_cases h1 : x.test = -1
  · rw [if_pos h1] at h
    by_cases h2 : x.zero = 0 ∧ x.one = 0 ∧ inR x.fault 0 ((n : Int) - 1) = true
    · have := (inR_iff _ _ _).1 h2.2.2
      exact .inl ⟨h1, h2.1, h2.2.1, by omega, by omega⟩
    · rw [if_neg h2] at h; cases h
  · rw [if_neg h1] at h
    by_cases h2 : inR x.test 0 ((T : Int) - 1) = true ∧ x.fault = 0 ∧ enterB len u k x.zero = true ∧ enterB len (x.zero :: u) k x.one = true
    · obtain ⟨a, b, c, d⟩ := h2
      have a' := (inR_iff _ _ _).1 a
      unfold enterB at c d
      rw [Bool.and_eq_true] at c d
      have c' := (inR_iff _ _ _).1 c.1
      have d' := (inR_iff _ _ _).1 d.1
      exact .inr ⟨by omega, by omega, b, by omega, by omega, by omega, by omega⟩
    · rw [if_neg h2] at h; cases h
theorem planTo_valid {n T : Nat} {l : List NodeD} : ∀ {k : Nat} {u : List Int}, planTo n T l k = some u → ∀ i, i < k → NodeV n T l.length i (l.getD i default)
  | 0, u, _, i, hi => by omega
  | k + 1, u, h, i, hi => by
    cases hp : planTo n T l k with
    | none =>
      have : planTo n T l (k + 1) = none := by show (planTo n T l k).bind _ = none; rw [hp]; rfl
      rw [this] at h; cases h
    | some u0 =>
      have hs : nodeStep n T l.length k (l.getD k default) u0 = some u := by
        have : planTo n T l (k + 1) = nodeStep n T l.length k (l.getD k default) u0 := by show (planTo n T l k).bind _ = _; rw [hp]; rfl
        rw [this] at h; exact h
      by_cases hik : i = k
      · rw [hik]; exact nodeStep_valid hs
      · exact planTo_valid hp i (by omega)
theorem isPlan_valid {n T : Nat} {l : List NodeD} (h : isPlanB n T l = true) : (1 ≤ l.length ∧ l.length ≤ 1000) ∧ ∀ i, i < l.length → NodeV n T l.length i (l.getD i default) := by
  unfold isPlanB at h
  rw [Bool.and_eq_true] at h
  have h1 := (inR_iff _ _ _).1 h.1
  cases hp : planTo n T l l.length with
  | none => rw [hp] at h; simp at h
  | some u => exact ⟨by omega, fun i hi => planTo_valid hp i hi⟩

/-- The way of a fault from a node on: the tests, and the leaf's fault. -/
def nextOf (ones : List Nat) (f : Nat) (x : NodeD) : Nat := if (ones.getD x.test.toNat 0).testBit f then x.one.toNat else x.zero.toNat
def wayF (ones : List Nat) (l : List NodeD) (f : Nat) : Nat → Nat → List Nat × Int
  | 0, _ => ([], 0)
  | d + 1, i =>
    let x := l.getD i default
    if x.test < 0 then ([], x.fault) else (x.test.toNat :: (wayF ones l f d (nextOf ones f x)).1, (wayF ones l f d (nextOf ones f x)).2)
def wayFrom (ones : List Nat) (l : List NodeD) (f i : Nat) : List Nat × Int := wayF ones l f (l.length - i) i
def wayOf (ones : List Nat) (l : List NodeD) (f : Nat) : List Nat × Int := wayFrom ones l f 0

theorem way_leaf {ones : List Nat} {l : List NodeD} {f i : Nat} (hi : i < l.length) (ht : (l.getD i default).test < 0) : wayFrom ones l f i = ([], (l.getD i default).fault) := by
  obtain ⟨e, he⟩ : ∃ e, l.length - i = e + 1 := ⟨l.length - i - 1, by omega⟩
  unfold wayFrom
  rw [he, wayF]
  rw [if_pos ht]

section
variable {n T : Nat} {ones : List Nat} {l : List NodeD} (hv : ∀ i, i < l.length → NodeV n T l.length i (l.getD i default))
include hv
theorem next_lt {f i : Nat} (hi : i < l.length) (ht : ¬ (l.getD i default).test < 0) : i < nextOf ones f (l.getD i default) ∧ nextOf ones f (l.getD i default) < l.length := by
  rcases hv i hi with h | h
  · omega
  · unfold nextOf
    split <;> omega
theorem wayF_enough (f : Nat) : ∀ d i, i < l.length → l.length - i ≤ d → wayF ones l f d i = wayFrom ones l f i
  | 0, i, hi, hd => by omega
  | d + 1, i, hi, hd => by
    obtain ⟨e, he⟩ : ∃ e, l.length - i = e + 1 := ⟨l.length - i - 1, by omega⟩
    unfold wayFrom
    rw [he, wayF, wayF]
    by_cases ht : (l.getD i default).test < 0
    · rw [if_pos ht, if_pos ht]
    · obtain ⟨h1, h2⟩ := next_lt (ones := ones) hv (f := f) hi ht
      rw [if_neg ht, if_neg ht, wayF_enough f d _ h2 (by omega), wayF_enough f e _ h2 (by omega)]
theorem way_node {f i : Nat} (hi : i < l.length) (ht : ¬ (l.getD i default).test < 0) :
    wayFrom ones l f i = ((l.getD i default).test.toNat :: (wayFrom ones l f (nextOf ones f (l.getD i default))).1, (wayFrom ones l f (nextOf ones f (l.getD i default))).2) := by
  obtain ⟨e, he⟩ : ∃ e, l.length - i = e + 1 := ⟨l.length - i - 1, by omega⟩
  obtain ⟨h1, h2⟩ := next_lt (ones := ones) hv (f := f) hi ht
  conv => lhs; unfold wayFrom
  rw [he, wayF]
  rw [if_neg ht, wayF_enough hv f e _ h2 (by omega)]
theorem way_tests (f : Nat) : ∀ d i, i < l.length → l.length - i ≤ d → (wayFrom ones l f i).1.length ≤ l.length - i ∧ ∀ x ∈ (wayFrom ones l f i).1, x < T
  | 0, i, hi, hd => by omega
  | d + 1, i, hi, hd => by
    by_cases ht : (l.getD i default).test < 0
    · rw [way_leaf hi ht]
      simp
    · obtain ⟨h1, h2⟩ := next_lt (ones := ones) hv (f := f) hi ht
      obtain ⟨h3, h4⟩ := way_tests f d _ h2 (by omega)
      rw [way_node hv hi ht]
      dsimp only
      refine ⟨by rw [List.length_cons]; omega, fun x hx => ?_⟩
      rcases List.mem_cons.1 hx with rfl | hx
      · rcases hv i hi with h | h <;> omega
      · exact h4 x hx
end

def sliceLen : Value → Nat
  | .slice _ n _ => n
  | _ => 0
theorem getD_default {l : List NodeD} {i : Nat} {x : NodeD} (h : l[i]? = some x) : l.getD i default = x := by rw [List.getD_eq_getElem?_getD, h]; rfl

theorem heap_set4 {w : World} {b : Nat} {x0 x1 x2 x3 y0 y1 y2 y3 : Value} {t : TypeId} {fr : Nat × Nat} (h : w.heap[b]? = some (.cells #[x0, x1, x2, x3] t fr)) :
    ((((w.setCell ⟨b, 0, none⟩ y0).setCell ⟨b, 1, none⟩ y1).setCell ⟨b, 2, none⟩ y2).setCell ⟨b, 3, none⟩ y3).heap[b]? = some (.cells #[y0, y1, y2, y3] t fr) := by
  have h0 := heap_set_same' (o := 0) (u := y0) h
  have h1 := heap_set_same' (o := 1) (u := y1) h0
  have h2 := heap_set_same' (o := 2) (u := y2) h1
  exact heap_set_same' (o := 3) (u := y3) h2

set_option maxRecDepth 8000 in
set_option maxHeartbeats 4000000 in
theorem way_any (tv : Value) (C : CaseD) (a : Option Addr) (n k f : Nat) (l : List NodeD) (w : World) (hT : TrialAt w tv C) (hok : caseOk C = true) (hn : n = l.length) (hl : NodesAt w a l) (hp : isPlanB C.ws.length C.ts.length l = true) (hf : f ≤ 60) :
    Calls Tryd.prog 50 #[tv, .slice a n k, .int .i64 (f : Int)] w fun e w' => ∃ a' k', e = .returned (.tuple #[.slice a' (wayOf (C.ts.map mask) l f).1.length k', .int .i64 (wayOf (C.ts.map mask) l f).2]) ∧
      w'.ownsRow w.heap.size 3 1 (.slice a' (wayOf (C.ts.map mask) l f).1.length k') (wayOf (C.ts.map mask) l f).1.length (natCells (wayOf (C.ts.map mask) l f).1) ∧ Ext w w' := by
  obtain ⟨hlen, hv⟩ := isPlan_valid hp
  obtain ⟨aw, at_, ac, ao, kw, kt, kc, ko, rfl, h1, h2, h3, h4, hw, ht, hc, hu⟩ := hT
  have hm := fun x hx => mask_small hok (x := x) hx
  have hts := caseOk_ts hok
  obtain ⟨nw, hnw⟩ : ∃ nw, C.ws.length = nw := ⟨_, rfl⟩
  obtain ⟨T, hT⟩ : ∃ T, C.ts.length = T := ⟨_, rfl⟩
  unfold trialV
  rw [hnw, hT] at hv ⊢
  rw [hT] at hts
  have HT := Lib.hid hT
  obtain ⟨all, hall⟩ : ∃ all : Nat, 2 ^ nw - 1 = all := ⟨_, rfl⟩
  rw [hall]
  obtain ⟨ncs, hncs⟩ : ∃ ncs, C.cs.length = ncs := ⟨_, rfl⟩
  rw [hncs]
  have HM := Lib.hid hm
  have HV := Lib.hid hv
  have HU := Lib.hid hu
  have HL := Lib.hid hl
  have HN := Lib.hid hn
  rw [← hn] at hlen
  obtain ⟨n1, n1000⟩ := hlen
  clear hnw hT hall hncs hok hw ht hc hu h1 h2 h3 h4 hm hv hl hp
  obtain ⟨b, off, x, rfl, e0, e1, e2, e3, hx⟩ := HL.out.get (i := 0) (by rw [← HN.out]; omega)
  simp only [Nat.zero_mul, Nat.add_zero] at e0 e1 e2 e3
  obtain ⟨xt, xf, xz, xo⟩ := x
  dsimp only at e0 e1 e2 e3
  have hz := lt_of_cell e0
  clear hn
  go_enter Tryd.func50, Tryd.ntmps50
  go_wp2_with fail
  obtain ⟨w2, hw2, q0, q1, hx2⟩ : ∃ w2, (w.alloc (.cells #[.slice aw nw kw, .slice at_ T kt, .slice ac ncs kc, .slice ao T ko, .int .u64 (all : Int)] 67)).alloc (.cells #[.int .i64 xt, .int .i64 xf, .int .i64 xz, .int .i64 xo] 45) = w2 ∧ w2.heap[w.heap.size]? = some (.cells #[.slice aw nw kw, .slice at_ T kt, .slice ac ncs kc, .slice ao T ko, .int .u64 (all : Int)] 67 (0, 0)) ∧
      w2.heap[w.heap.size + 1]? = some (.cells #[.int .i64 xt, .int .i64 xf, .int .i64 xz, .int .i64 xo] 45 (0, 0)) ∧ Ext w w2 :=
    ⟨_, rfl, heap_alloc (heap_alloc_new _ _), by have := heap_alloc_new (w.alloc (.cells #[.slice aw nw kw, .slice at_ T kt, .slice ac ncs kc, .slice ao T ko, .int .u64 (all : Int)] 67)) (.cells #[.int .i64 xt, .int .i64 xf, .int .i64 xz, .int .i64 xo] 45); simpa only [wsize_alloc] using this, (Ext.alloc _ _).trans (Ext.alloc _ _)⟩
  rw [hw2]
  have Q0 := Lib.hid q0
  have Q1 := Lib.hid q1
  have HX2 := Lib.hid hx2
  clear hw2 q0 q1 hx2 e0 e1 e2 e3 hz
  obtain ⟨i1, hi1, hz10, hz11, hz12⟩ := info_parts info_int
  go_loopw [8] (fun o wr => ∃ (i : Nat) (x : NodeD) (oa : Option Addr) (ok : Nat) (acc : List Nat), i < n ∧ l[i]? = some x ∧ acc.length ≤ i ∧ wayOf (C.ts.map mask) l f = (acc ++ (wayFrom (C.ts.map mask) l f i).1, (wayFrom (C.ts.map mask) l f i).2) ∧ o = .slice oa acc.length ok ∧
      wr.ownsRow (w.heap.size + 2) 3 1 (.slice oa acc.length ok) acc.length (natCells acc) ∧ Ext w wr ∧ wr.heap[w.heap.size]? = some (.cells #[.slice aw nw kw, .slice at_ T kt, .slice ac ncs kc, .slice ao T ko, .int .u64 (all : Int)] 67 (0, 0)) ∧
      wr.heap[w.heap.size + 1]? = some (.cells #[.int .i64 x.test, .int .i64 x.fault, .int .i64 x.zero, .int .i64 x.one] 45 (0, 0))) (fun o wr => n - sliceLen o)
  case atStart =>
    exact ⟨0, ⟨xt, xf, xz, xo⟩, none, 0, [], by omega, hx.out, Nat.le_refl _, rfl, rfl, World.ownsRow_nil _ _ _ _, HX2.out, Q0.out, Q1.out⟩
  case round =>
    clear hx Q0 Q1 HX2
    obtain ⟨i, x, oa, okk, acc, hi, hxi, hai, hway, rfl, hown, hxr, q0, q1⟩ := hrel
    have hil : i < l.length := by rw [← HN.out]; exact hi
    have hnv := HV.out i hil
    rw [getD_default hxi, ← HN.out] at hnv
    have hleaf := fun h => way_leaf (ones := C.ts.map mask) (f := f) hil (by rw [getD_default hxi]; exact h)
    have hnode := fun h => way_node (ones := C.ts.map mask) HV.out (f := f) hil (by rw [getD_default hxi]; exact h)
    rw [getD_default hxi] at hleaf hnode
    obtain ⟨xt, xf, xz, xo⟩ := x
    dsimp only at q0 q1 hnv hleaf hnode
    have HWAY := Lib.hid hway
    have HLEAF := Lib.hid hleaf
    have HNODE := Lib.hid hnode
    have HOWN := Lib.hid hown
    have HXR := Lib.hid hxr
    have Q0 := Lib.hid q0
    have Q1 := Lib.hid q1
    obtain ⟨c0, c1, c2, c3, c4⟩ := cells5 q0
    obtain ⟨n0, n1', n2, n3⟩ := cells4 q1
    have nf := free_heap q1
    have z1 := heap_lt q1
    have hal : acc.length ≤ 1000 := by omega
    clear hway hleaf hnode hown hxr q0 q1 hxi
    rcases hnv with ⟨ht, hz, ho, hf0, hfn⟩ | ⟨ht0, htT, hf0, hz1, hz2, ho1, ho2⟩
    · subst ht
      have hw := HLEAF.out (by omega)
      have HW := Lib.hid hw
      clear hw
      go_wp2_with fail
      go_quiet (fail)
      go_wp2_with fail
      go_ret2
      have e : wayOf (C.ts.map mask) l f = (acc, xf) := by
        rw [HWAY.out, HW.out]
        simp
      rw [e]
      exact ⟨oa, okk, rfl, own_ext (own_base HOWN.out (by omega)) (Ext.drewN _ _), HXR.out.trans (Ext.drewN _ _)⟩
    · dsimp only at ht0 htT hf0 hz1 hz2 ho1 ho2
      obtain ⟨t, rfl⟩ : ∃ t : Nat, xt = (t : Int) := ⟨xt.toNat, by omega⟩
      obtain ⟨z, rfl⟩ : ∃ z : Nat, xz = (z : Int) := ⟨xz.toNat, by omega⟩
      obtain ⟨o, rfl⟩ : ∃ o : Nat, xo = (o : Int) := ⟨xo.toNat, by omega⟩
      have htT' : t < T := by omega
      have hw := HNODE.out (by omega)
      simp only [Int.toNat_natCast, nextOf] at hw
      have hstep : natCells acc ++ [.int .i64 (t : Int)] = natCells (acc ++ [t]) := by simp [natCells]
      have HSTEP := Lib.hid hstep
      have HWN := Lib.hid hw
      clear hw hstep
      go_wp2_with (at_builtin; refine wpList_append_own _ rfl _ _ 22 rfl (w.heap.size + 2) 3 i1 (.int .i64 0) 1 8 Tryd.underlying22 hi1 hz10 hz11 hz12 rfl (by decide) _ _ _ rfl (HOWN.out.alloc _) ⟨wr.heap.size, 0, none⟩ 1 1 [.int .i64 (t : Int)] rfl rfl (World.news_of_block (cs := #[.int .i64 (t : Int)]) (heap_alloc_new wr _)) (by simp [Value.oneCell']) (by unfold maxLen; omega) (by omega) (by simp; omega) ?_)
      intro v' w4 hown4 hgrow _
      have hx4 := ext_grown HXR.out hgrow HOWN.out (by omega)
      have q0 := heap_grown' hgrow (own_ne_heap HOWN.out Q0.out (by decide)) Q0.out
      have q1 := heap_grown' hgrow (own_ne_heap HOWN.out Q1.out (by decide)) Q1.out
      obtain ⟨oa', ok', hv', _, _⟩ := cells_of_own hown4
      rw [hv'] at hown4 ⊢
      rw [HSTEP.out] at hown4
      obtain ⟨ob, oo, mk, rfl, cmk, hmk⟩ := (HU.out.ext hx4).get (i := t) (by rw [List.length_map, HT.out]; exact htT')
      have hmks := HM.out mk (List.mem_of_getElem? hmk.out)
      have hgm : (C.ts.map mask).getD t 0 = mk := by rw [List.getD_eq_getElem?_getD, hmk.out]; rfl
      have hw := HWN.out
      rw [hgm] at hw
      have HW := Lib.hid hw
      clear c0 c1 c2 c3 c4 n0 n1' n2 n3 nf z1
      obtain ⟨c0, c1, c2, c3, c4⟩ := cells5 q0
      obtain ⟨n0, n1', n2, n3⟩ := cells4 q1
      have nf := free_heap q1
      have z1 := heap_lt q1
      have HX4 := Lib.hid hx4
      have P0 := Lib.hid q0
      have P1 := Lib.hid q1
      have HOWN4 := Lib.hid hown4
      have ht0' : (0 : Int) ≤ (t : Int) := by omega
      have ht1' : (t : Int) < (T : Int) := by omega
      clear hw hgm hmk hgrow hv' hown4 q0 q1 hx4
      cases hbit : mk.testBit f with
      | true =>
        have hw := HW.out
        rw [hbit] at hw
        simp only [if_true] at hw
        obtain ⟨pb, po, y, hpe, y0, y1, y2, y3, hy⟩ := (HL.out.ext HX4.out).get (i := o) (by rw [← HN.out]; omega)
        cases hpe
        have HW2 := Lib.hid hw
        have i0 : (0 : Int) ≤ (o : Int) := by omega
        have i1' : (o : Int) < (n : Int) := by omega
        clear hw
        go_wp2_with (go_at_call 51; refine (has_any _ _ _ hmks hf).mono ?_; rintro e w' ⟨rfl, rfl⟩)
        go_roundw
        case rel =>
          refine ⟨o, y, oa', ok', acc ++ [t], by omega, hy.out, by rw [List.length_append]; simp; omega, ?_, by rw [List.length_append]; rfl, ?_, ?_, ?_, heap_set4 P1.out⟩
          · rw [HWAY.out, HW2.out]
            simp
          · rw [List.length_append]
            have hne := own_ne_heap HOWN4.out P1.out (by decide)
            exact ownsRow_setCell_other (ownsRow_setCell_other (ownsRow_setCell_other (ownsRow_setCell_other HOWN4.out hne _) hne _) hne _) hne _
          · exact (((((OExt.of_ext HX4.out none none).set (by omega)).set (by omega)).set (by omega)).set (by omega)).to (Ext.refl w) (fun k h => by cases h) (fun k h => by cases h)
          · exact heap_set_other (heap_set_other (heap_set_other (heap_set_other P0.out (by simp)) (by simp)) (by simp)) (by simp)
        case measure => simp [sliceLen]; omega
      | false =>
        have hw := HW.out
        rw [hbit] at hw
        simp only [Bool.false_eq_true, if_false] at hw
        obtain ⟨pb, po, y, hpe, y0, y1, y2, y3, hy⟩ := (HL.out.ext HX4.out).get (i := z) (by rw [← HN.out]; omega)
        cases hpe
        have HW2 := Lib.hid hw
        have i0 : (0 : Int) ≤ (z : Int) := by omega
        have i1' : (z : Int) < (n : Int) := by omega
        clear hw
        go_wp2_with (go_at_call 51; refine (has_any _ _ _ hmks hf).mono ?_; rintro e w' ⟨rfl, rfl⟩)
        go_roundw
        case rel =>
          refine ⟨z, y, oa', ok', acc ++ [t], by omega, hy.out, by rw [List.length_append]; simp; omega, ?_, by rw [List.length_append]; rfl, ?_, ?_, ?_, heap_set4 P1.out⟩
          · rw [HWAY.out, HW2.out]
            simp
          · rw [List.length_append]
            have hne := own_ne_heap HOWN4.out P1.out (by decide)
            exact ownsRow_setCell_other (ownsRow_setCell_other (ownsRow_setCell_other (ownsRow_setCell_other HOWN4.out hne _) hne _) hne _) hne _
          · exact (((((OExt.of_ext HX4.out none none).set (by omega)).set (by omega)).set (by omega)).set (by omega)).to (Ext.refl w) (fun k h => by cases h) (fun k h => by cases h)
          · exact heap_set_other (heap_set_other (heap_set_other (heap_set_other P0.out (by simp)) (by simp)) (by simp)) (by simp)
        case measure => simp [sliceLen]; omega
end Go.Proofs.YtdbendnfgkonbaaDoor
