/- Contracts: has, IndexFunc and ContainsFunc over sets, alike$1, alike, Alike. -/
import Derived.Test.YtdbendnfgkonbaaDoorNewTrial
namespace Go.Proofs.YtdbendnfgkonbaaDoor
open Go.RowKit
set_option linter.unusedVariables false
set_option linter.unusedSimpArgs false

theorem has_bit (s f : Nat) (hs : s < 2 ^ 63) : (bits BinOp.and IntKind.u64 ((s : Int) / 2 ^ f) 1 == 1) = s.testBit f := by
  have hc : ((s : Int) / 2 ^ f) = ((s / 2 ^ f : Nat) : Int) := by simp
  have h1 : s / 2 ^ f ≤ s := Nat.div_le_self _ _
  generalize hd : s / 2 ^ f = d at *
  rw [hc, and_one_u64 _ (by omega) (by omega), Nat.testBit_eq_decide_div_mod_eq, hd]
  rw [Bool.eq_iff_iff]
  simp
  omega

theorem has_any (s f : Nat) (w : World) (hs : s < 2 ^ 63) (hf : f ≤ 60) :
    Calls Tryd.prog 51 #[.int .u64 (s : Int), .int .i64 (f : Int)] w fun e w' => e = .returned (.bool (s.testBit f)) ∧ w = w' := by
  go_enter Tryd.func51, Tryd.ntmps51
  go_wp2
  go_ret
  exact ⟨ret_eq (by rw [← has_bit s f hs]; rfl), rfl⟩

def findN (p : Nat → Bool) : List Nat → Nat → Int
  | [], _ => -1
  | x :: r, k => if p x then k else findN p r (k + 1)

theorem findN_drop (p : Nat → Bool) (xs : List Nat) (k : Nat) (x : Nat) (h : xs[k]? = some x) : findN p (xs.drop k) k = if p x then (k : Int) else findN p (xs.drop (k + 1)) (k + 1) := by
  obtain ⟨hk, rfl⟩ := List.getElem?_eq_some_iff.1 h
  rw [List.drop_eq_getElem_cons hk]
  rfl
theorem findN_any (p : Nat → Bool) : ∀ (xs : List Nat) (k : Nat), decide (0 ≤ findN p xs k) = xs.any p
  | [], k => by simp [findN]
  | x :: r, k => by
    cases hx : p x with
    | true => simp [findN, hx]
    | false => simp only [findN, hx, List.any_cons, Bool.false_or]; exact findN_any p r (k + 1)

theorem indexFuncF_any (f : Nat) (cap : Array Value) (p : Nat → Bool) (a : Option Addr) (k : Nat) (xs : List Nat) (w : World) (hx : UintsAt w a xs) (hk : xs.length ≤ 9223372036854775807)
    (hf : ∀ args w', (callFunc f args).run Tryd.prog w' = .ok (.enter f args) w')
    (hp : ∀ (x : Nat) w', x ∈ xs → Ext w w' → Calls Tryd.prog f (#[.int .u64 (x : Int)] ++ cap) w' fun e w'' => e = .returned (.bool (p x)) ∧ Ext w' w'') :
    Calls Tryd.prog 68 #[.slice a xs.length k, .func (.func f) #[] cap] w fun e w' => e = .returned (.int .i64 (findN p xs 0)) ∧ Ext w w' := by
  have HP := Lib.hid hp
  clear hp
  go_enter Tryd.func68, Tryd.ntmps68
  go_wp2
  go_loopw [8] (fun i wr => ∃ j : Nat, j ≤ xs.length ∧ i = .int .i64 j ∧ findN p xs 0 = findN p (xs.drop j) j ∧ Ext w wr) (fun i _ => xs.length - (intOf i).toNat)
  case atStart => exact ⟨0, Nat.zero_le _, rfl, rfl, Ext.refl _⟩
  case round =>
    obtain ⟨j, hj, rfl, hf, hb⟩ := hrel
    have HF := Lib.hid hf
    clear hf
    by_cases hlt : j < xs.length
    · obtain ⟨b, off, x, rfl, hc, hxj⟩ := (hx.ext hb).get hlt
      have hm : x ∈ xs := List.mem_of_getElem? hxj.out
      go_wp2_with fail
      refine (HP.out x _ hm hb).mono ?_
      rintro e w2 ⟨rfl, hb2⟩
      have hs := findN_drop p xs j x hxj.out
      have HS := Lib.hid hs
      clear hs
      cases hpx : p x with
      | true =>
        go_wp2_with fail
        go_ret
        exact ⟨ret_eq (by rw [HF.out, HS.out, hpx]; rfl), hb.trans hb2⟩
      | false =>
        go_wp2_with fail
        go_roundw
        case rel => exact ⟨j + 1, by omega, by go_num, by rw [HF.out, HS.out, hpx]; simp, hb.trans hb2⟩
        case measure => simp [intOf]; omega
    · go_wp2_with fail
      go_ret
      have he : xs.drop j = [] := List.drop_eq_nil_of_le (by omega)
      exact ⟨ret_eq (by rw [HF.out, he]; rfl), hb⟩

theorem containsFuncF_any (f : Nat) (cap : Array Value) (p : Nat → Bool) (a : Option Addr) (n k : Nat) (xs : List Nat) (w : World) (hn : n = xs.length) (hx : UintsAt w a xs) (hk : xs.length ≤ 9223372036854775807)
    (hf : ∀ args w', (callFunc f args).run Tryd.prog w' = .ok (.enter f args) w')
    (hp : ∀ (x : Nat) w', x ∈ xs → Ext w w' → Calls Tryd.prog f (#[.int .u64 (x : Int)] ++ cap) w' fun e w'' => e = .returned (.bool (p x)) ∧ Ext w' w'') :
    Calls Tryd.prog 58 #[.slice a n k, .func (.func f) #[] cap] w fun e w' => e = .returned (.bool (xs.any p)) ∧ Ext w w' := by
  subst hn
  have HP := Lib.hid hp
  clear hp
  go_enter Tryd.func58, Tryd.ntmps58
  go_wp2_with (go_at_call 68; refine (indexFuncF_any f cap p a k xs w hx hk hf HP.out).mono ?_; rintro e w' ⟨rfl, hb⟩)
  go_ret
  refine ⟨ret_eq ?_, by assumption⟩
  rw [← findN_any p xs 0]
  rfl

theorem enter_apart (args : Array Value) (w : World) : (callFunc 59 args).run Tryd.prog w = .ok (.enter 59 args) w := by rfl

def parts (a b : Nat) (s : Nat) : Bool := !(s.testBit a == s.testBit b)

theorem apart_any (s a b : Nat) (A B : Addr) (w : World) (hs : s < 2 ^ 63) (ha : a ≤ 60) (hb : b ≤ 60) (cA : w.cell? A = some (.int .i64 (a : Int))) (cB : w.cell? B = some (.int .i64 (b : Int))) :
    Calls Tryd.prog 59 #[.int .u64 (s : Int), .pointer (some A), .pointer (some B)] w fun e w' => e = .returned (.bool (parts a b s)) ∧ Ext w w' := by
  go_enter Tryd.func59, Tryd.ntmps59
  go_wp2_with fail
  go_quiet ((go_at_call 51; refine Calls.quiet_of_same (calls_flip (has_any _ _ _ hs (by omega)))))
  go_wp2_with fail
  go_ret
  exact ⟨rfl, Ext.drewN _ _⟩

/-- Which pairs no test tells apart: for the first fault a, the second below b; for all first faults below a. -/
def same (ones : List Nat) (a b : Nat) : Bool := !(ones.any (parts a b))
def rowTo (ones : List Nat) (a b : Nat) : List (Nat × Nat) := ((List.range b).filter fun x => decide (a < x) && same ones a x).map fun x => (a, x)
def allTo (ones : List Nat) (n a : Nat) : List (Nat × Nat) := (List.range a).flatMap fun x => rowTo ones x n
def alikeL (ones : List Nat) (n : Nat) : List (Nat × Nat) := allTo ones n n

theorem rowTo_start (ones : List Nat) (a : Nat) : rowTo ones a (a + 1) = [] := by
  unfold rowTo
  rw [List.filter_eq_nil_iff.2, List.map_nil]
  intro x hx
  have := List.mem_range.1 hx
  simp
  omega
theorem rowTo_step (ones : List Nat) (a b : Nat) (h : a < b) : rowTo ones a (b + 1) = rowTo ones a b ++ if same ones a b then [(a, b)] else [] := by
  unfold rowTo
  rw [List.range_succ, List.filter_append, List.map_append]
  congr 1
  by_cases hs : same ones a b = true <;> simp [h, hs]
theorem allTo_step (ones : List Nat) (n a : Nat) : allTo ones n (a + 1) = allTo ones n a ++ rowTo ones a n := by
  unfold allTo
  rw [List.range_succ, List.flatMap_append]
  simp
theorem rowTo_len (ones : List Nat) (a b : Nat) : (rowTo ones a b).length ≤ b := by
  unfold rowTo
  rw [List.length_map]
  exact Nat.le_trans (List.length_filter_le _ _) (by simp)
theorem allTo_len (ones : List Nat) (n : Nat) : ∀ a, (allTo ones n a).length ≤ a * n
  | 0 => by simp [allTo]
  | a + 1 => by
    rw [allTo_step, List.length_append]
    have := allTo_len ones n a
    have := rowTo_len ones a n
    rw [Nat.add_mul]
    omega

def upTo (ones : List Nat) (n a b : Nat) : List (Nat × Nat) := allTo ones n a ++ rowTo ones a b
theorem upTo_start (ones : List Nat) (n a : Nat) : upTo ones n a (a + 1) = allTo ones n a := by rw [upTo, rowTo_start, List.append_nil]
theorem upTo_end (ones : List Nat) (n a : Nat) : upTo ones n a n = allTo ones n (a + 1) := (allTo_step ones n a).symm
theorem upTo_yes (ones : List Nat) (n a b : Nat) (h : a < b) (hs : ones.any (parts a b) = false) : upTo ones n a (b + 1) = upTo ones n a b ++ [(a, b)] := by
  rw [upTo, upTo, rowTo_step ones a b h, if_pos (by simp [same, hs]), List.append_assoc]
theorem upTo_no (ones : List Nat) (n a b : Nat) (h : a < b) (hs : ones.any (parts a b) = true) : upTo ones n a (b + 1) = upTo ones n a b := by
  rw [upTo, upTo, rowTo_step ones a b h, if_neg (by simp [same, hs]), List.append_nil]
theorem upTo_len (ones : List Nat) (n a b : Nat) (ha : a ≤ 10) (hb : b ≤ 10) (hn : n ≤ 10) : (upTo ones n a b).length ≤ 110 := by
  have h1 := allTo_len ones n a
  have h2 := rowTo_len ones a b
  have h3 : a * n ≤ 10 * 10 := Nat.mul_le_mul ha hn
  rw [upTo, List.length_append]
  omega

def pairCells (l : List (Nat × Nat)) : List Value := l.flatMap fun p => [.int .i64 (p.1 : Int), .int .i64 (p.2 : Int)]
theorem pairCells_snoc (l : List (Nat × Nat)) (a b : Nat) : pairCells (l ++ [(a, b)]) = pairCells l ++ [.int .i64 (a : Int), .int .i64 (b : Int)] := by simp [pairCells]
theorem pairCells_len (l : List (Nat × Nat)) : (pairCells l).length = l.length * 2 := by
  induction l with
  | nil => rfl
  | cons x r ih => simp only [pairCells, List.flatMap_cons, List.length_append, List.length_cons, List.length_nil] at ih ⊢; omega

def ptrInt (w : World) : Value → Int
  | .pointer (some a) => intOf ((w.cell? a).getD undef)
  | _ => 0
theorem ptrInt_of {w : World} {a : Addr} {k : IntKind} {x : Int} (h : w.cell? a = some (.int k x)) : ptrInt w (.pointer (some a)) = x := by simp [ptrInt, h, intOf]
theorem caseOk_n {C : CaseD} (h : caseOk C = true) : 1 ≤ C.ws.length ∧ C.ws.length ≤ 10 := by
  simp only [caseOk, Bool.and_eq_true, inR_iff] at h
  omega
theorem caseOk_ts {C : CaseD} (h : caseOk C = true) : C.ts.length ≤ 12 := by
  simp only [caseOk, Bool.and_eq_true, decide_eq_true_eq] at h
  exact h.1.1.1.1.2
theorem caseOk_cs {C : CaseD} (h : caseOk C = true) : C.cs.length = C.ts.length := by
  simp only [caseOk, Bool.and_eq_true, decide_eq_true_eq] at h
  exact h.1.1.1.2
theorem caseOk_w {C : CaseD} (h : caseOk C = true) {x : Int} (hx : x ∈ C.ws) : 1 ≤ x ∧ x ≤ 1000 := by
  simp only [caseOk, Bool.and_eq_true] at h
  have h1 := h.1.1.2
  simp only [badWs, Bool.not_eq_true', List.any_eq_false] at h1
  have := h1 x hx
  simpa [inR] using this
theorem caseOk_c {C : CaseD} (h : caseOk C = true) {x : Int} (hx : x ∈ C.cs) : 1 ≤ x ∧ x ≤ 100 := by
  simp only [caseOk, Bool.and_eq_true] at h
  have h1 := h.1.2
  simp only [badCs, Bool.not_eq_true', List.any_eq_false] at h1
  have := h1 x hx
  simpa [inR] using this
theorem caseOk_row {C : CaseD} (h : caseOk C = true) {r : List Int} (hr : r ∈ C.ts) : r.length = C.ws.length ∧ badRow r = false := by
  simp only [caseOk, Bool.and_eq_true] at h
  have := List.all_eq_true.1 h.2 r hr
  simpa [rowOk] using this
theorem mask_lt {C : CaseD} (h : caseOk C = true) {r : List Int} (hr : r ∈ C.ts) : mask r < 2 ^ C.ws.length := by
  obtain ⟨h1, h2⟩ := caseOk_row h hr
  rw [mask, ← h1]
  exact maskTo_lt r (badRow_getD h2) _
theorem mask_small {C : CaseD} (h : caseOk C = true) {x : Nat} (hx : x ∈ C.ts.map mask) : x < 2 ^ 63 := by
  obtain ⟨r, hr, rfl⟩ := List.mem_map.1 hx
  have h1 := mask_lt h hr
  have : (2 : Nat) ^ C.ws.length ≤ 2 ^ 10 := Nat.pow_le_pow_right (by omega) (caseOk_n h).2
  omega
theorem info_pair : (Tryd.prog.info? 39).map (fun i => (i.zero, i.size, i.bytes)) = some (some (.agg #[.int .i64 0, .int .i64 0]), 2, 16) := by kernel_rfl

set_option maxHeartbeats 1000000 in
theorem alike_any (tv : Value) (C : CaseD) (w : World) (hT : TrialAt w tv C) (hok : caseOk C = true) :
    Calls Tryd.prog 34 #[tv] w fun e w' => ∃ v, e = .returned v ∧
      w'.ownsRow w.heap.size 39 2 v (alikeL (C.ts.map mask) C.ws.length).length (pairCells (alikeL (C.ts.map mask) C.ws.length)) ∧ Ext w w' := by
  obtain ⟨aw, at_, ac, ao, kw, kt, kc, ko, rfl, h1, h2, h3, h4, hw, ht, hc, hu⟩ := hT
  have hn := (caseOk_n hok).2
  have hm := fun x hx => mask_small hok (x := x) hx
  have hl := caseOk_ts hok
  obtain ⟨ws, ts, cs⟩ := C
  dsimp only at *
  unfold trialV
  go_enter Tryd.func34, Tryd.ntmps34
  go_wp2_with fail
  obtain ⟨B, hB⟩ : ∃ B, B = w.heap.size := ⟨_, rfl⟩
  go_loopw [3, 10] (fun o i wr => ∃ (a : Nat) (va : Option Addr) (vk : Nat), a ≤ ws.length ∧ i = .int .i64 a ∧ o = .slice va (allTo (ts.map mask) ws.length a).length vk ∧
      wr.heap[w.heap.size]? = some (.cells #[.slice aw ws.length kw, .slice at_ ts.length kt, .slice ac cs.length kc, .slice ao ts.length ko, .int .u64 ((2 ^ ws.length - 1 : Nat) : Int)] 67 (0, 0)) ∧
      wr.ownsRow (w.heap.size + 1) 39 2 (.slice va (allTo (ts.map mask) ws.length a).length vk) (allTo (ts.map mask) ws.length a).length (pairCells (allTo (ts.map mask) ws.length a)) ∧ Ext w wr)
    (fun _ i _ => ws.length - (intOf i).toNat)
  case atStart => exact ⟨0, none, 0, Nat.zero_le _, rfl, rfl, heap_alloc_new _ _, World.ownsRow_nil _ _ _ _, Ext.alloc _ _⟩
  case round =>
    obtain ⟨a, va, vk, ha, rfl, rfl, hT, hown, hext⟩ := hrel
    obtain ⟨t0, t1, t2, t3, t4⟩ := cells5 hT
    by_cases hlt : a < ws.length
    · have hext2 := hext.trans ((Ext.alloc wr (.cells #[.int .i64 (a : Int)] 3)).trans (Ext.alloc _ (.cells #[.int .i64 ((a : Int) + 1)] 3)))
      have hA := heap_alloc (o' := .cells #[.int .i64 ((a : Int) + 1)] 3) (heap_alloc_new wr (.cells #[.int .i64 (a : Int)] 3))
      have hA0 : w.heap.size < wr.heap.size := by have := heap_lt hT; omega
      go_wp2_with fail
      go_loopw [3, 5] (fun o p wq => ∃ (b pb : Nat) (va : Option Addr) (vk : Nat), a < b ∧ b ≤ ws.length ∧ p = .pointer (some ⟨pb, 0, none⟩) ∧ o = .slice va (upTo (ts.map mask) ws.length a b).length vk ∧ w.heap.size < pb ∧ pb ≠ wr.heap.size ∧
          wq.heap[w.heap.size]? = some (.cells #[.slice aw ws.length kw, .slice at_ ts.length kt, .slice ac cs.length kc, .slice ao ts.length ko, .int .u64 ((2 ^ ws.length - 1 : Nat) : Int)] 67 (0, 0)) ∧
          wq.heap[wr.heap.size]? = some (.cells #[.int .i64 (a : Int)] 3 (0, 0)) ∧ wq.heap[pb]? = some (.cells #[.int .i64 (b : Int)] 3 (0, 0)) ∧
          wq.ownsRow (w.heap.size + 1) 39 2 (.slice va (upTo (ts.map mask) ws.length a b).length vk) (upTo (ts.map mask) ws.length a b).length (pairCells (upTo (ts.map mask) ws.length a b)) ∧ Ext w wq)
        (fun _ p wq => ws.length - (ptrInt wq p).toNat)
      case atStart =>
        refine ⟨a + 1, wr.heap.size + 1, va, vk, by omega, by omega, rfl, by rw [upTo_start], by omega, by omega, heap_alloc (heap_alloc hT), ?_, ?_, ?_, hext2⟩
        · exact hA
        · simpa using heap_alloc_new (wr.alloc (.cells #[.int .i64 (a : Int)] 3)) (.cells #[.int .i64 ((a : Int) + 1)] 3)
        · rw [upTo_start]; exact (hown.alloc _).alloc _
      case round =>
        rename World => wq
        obtain ⟨b, pb, va, vk, hab, hb, rfl, rfl, hpb, hpa, qT, qA, qB, qown, qext⟩ := hrel
        obtain ⟨t0, t1, t2, t3, t4⟩ := cells5 qT
        have cA := cells1 qA
        have cB := cells1 qB
        have fB := free_heap qB
        by_cases hltb : b < ws.length
        · have hmeas := Lib.hid (ptrInt_of cB)
          go_wp2_with fail
          refine (containsFuncF_any _ #[.pointer (some ⟨wr.heap.size, 0, none⟩), .pointer (some ⟨pb, 0, none⟩)] (parts a b) ao _ ko (ts.map mask) _ (by simp) (hu.ext qext) (by simp; omega) enter_apart ?_).mono ?_
          · intro x w' hx hx2
            exact apart_any x a b _ _ w' (hm x hx) (by omega) (by omega) (cell_later hx2 cA) (cell_later hx2 cB)
          rintro e w2 ⟨rfl, hb2⟩
          have qT' := heap_ext qT hb2
          have qA' := heap_ext qA hb2
          have qB' := heap_ext qB hb2
          have qown' := own_ext qown hb2
          have qext' := qext.trans hb2
          clear qT qA qB qown qext cA cB fB t0 t1 t2 t3 t4
          have cA := cells1 qA'
          have cB := cells1 qB'
          have fB := free_heap qB'
          cases hany : (ts.map mask).any (parts a b) with
          | true =>
            have hst := Lib.hid (upTo_no (ts.map mask) ws.length a b hab hany)
            go_wp2_with fail
            go_roundw
            case rel =>
              refine ⟨b + 1, w2.heap.size, va, vk, by omega, by omega, rfl, by rw [hst.out], by have := heap_lt qT'; omega, by have := heap_lt qA'; omega, heap_alloc qT', heap_alloc qA', ?_, ?_, qext'.trans (Ext.alloc _ _)⟩
              · have := heap_alloc_new w2 (.cells #[.int .i64 ((b : Int) + 1)] 3)
                simpa using this
              · rw [hst.out]; exact qown'.alloc _
            case measure =>
              have h := hmeas.out
              simp [ptrInt, intOf] at h ⊢
              rw [h]
              omega
          | false =>
            have hst := Lib.hid (upTo_yes (ts.map mask) ws.length a b hab hany)
            have hlen := upTo_len (ts.map mask) ws.length a b (by omega) (by omega) hn
            obtain ⟨i0, hi, hz0, hz1, hz2⟩ := info_parts info_pair
            have hA1 := heap_lt qA'
            go_wp2_with (at_builtin; refine wpList_append_own _ rfl _ _ 31 rfl (w.heap.size + 1) 39 i0 (.agg #[.int .i64 0, .int .i64 0]) 2 16 Tryd.underlying31 hi hz0 hz1 hz2 rfl (by decide) _ _ _ rfl (qown'.alloc _) ⟨w2.heap.size, 0, none⟩ 1 1 [.int .i64 (a : Int), .int .i64 (b : Int)] rfl rfl (World.news_of_block (cs := #[.int .i64 (a : Int), .int .i64 (b : Int)]) (heap_alloc_new w2 _)) (by simp [Value.oneCell']) (by unfold maxLen; omega) (by omega) (by simp; omega) ?_)
            intro v' w4 hown4 hgrow _
            have rT := heap_grown hgrow qown' (by omega) qT'
            have rA := heap_grown' hgrow (own_ne_heap qown' qA' (by decide)) qA'
            have rB := heap_grown' hgrow (own_ne_heap qown' qB' (by decide)) qB'
            have rext := ext_grown qext' hgrow qown' (by omega)
            obtain ⟨va', vk', hv', _, _⟩ := cells_of_own hown4
            rw [hv'] at hown4 ⊢
            clear qT' qA' qB' qext' cA cB fB
            have cA := cells1 rA
            have cB := cells1 rB
            have fB := free_heap rB
            clear hgrow qown' hv'
            go_wp2_with fail
            go_roundw
            case rel =>
              refine ⟨b + 1, w4.heap.size, va', vk', by omega, by omega, rfl, by rw [hst.out, List.length_append]; rfl, by have := heap_lt rT; omega, by have := heap_lt rA; omega, heap_alloc rT, heap_alloc rA, ?_, ?_, rext.trans (Ext.alloc _ _)⟩
              · have := heap_alloc_new w4 (.cells #[.int .i64 ((b : Int) + 1)] 3)
                simpa using this
              · rw [hst.out, List.length_append, pairCells_snoc]; exact hown4.alloc _
            case measure =>
              have h := hmeas.out
              simp [ptrInt, intOf] at h ⊢
              rw [h]
              omega
        · obtain rfl : b = ws.length := by omega
          go_wp2_with fail
          go_roundw
          case rel =>
            refine ⟨a + 1, va, vk, by omega, by go_num, by rw [← upTo_end], qT, by rw [← upTo_end]; exact qown, qext⟩
          case measure => simp [intOf]; omega
    · obtain rfl : a = ws.length := by omega
      go_wp2_with fail
      go_ret
      exact ⟨_, rfl, own_base hown (by omega), hext⟩

/-- tests.Alike. -/
theorem Alike_any (cv : Value) (C : CaseD) (w : World) (hC : CaseAt w cv C) :
    Calls Tryd.prog 12 #[cv] w fun e w' => (caseOk C = true ∧ ∃ v, e = .returned (.tuple #[v, .int .i64 0]) ∧
      w'.ownsRow w.heap.size 39 2 v (alikeL (C.ts.map mask) C.ws.length).length (pairCells (alikeL (C.ts.map mask) C.ws.length)) ∧ Ext w w') ∨
      (caseOk C = false ∧ e = .returned (.tuple #[.slice none 0 0, .int .i64 2]) ∧ Ext w w') := by
  have hC0 := hC
  obtain ⟨aw, kw, at_, kt, ac, kc, rfl, k1, k2, k3, hw, ht, hc⟩ := hC
  have hC1 := hC0.ext (Ext.alloc w (.cells #[.slice aw C.ws.length kw, .slice at_ C.ts.length kt, .slice ac C.cs.length kc] 25))
  go_enter Tryd.func12, Tryd.ntmps12
  go_wp2_with fail
  refine (newTrial_any _ C _ hC1).mono ?_
  rintro e w1 h
  rcases h with ⟨hok, tv, rfl, hT, hx⟩ | ⟨hok, rfl, hx⟩
  · have hx0 := hx.of_alloc
    have HT := hT
    obtain ⟨aw', at', ac', ao', kw', kt', kc', ko', rfl, _⟩ := hT
    unfold trialV at HT ⊢
    go_wp2_with fail
    refine (alike_any _ C _ (HT.ext (Ext.alloc _ _)) hok).mono ?_
    rintro e w2 ⟨v, rfl, hown, hx2⟩
    go_wp2_with fail
    go_ret2
    refine .inl ⟨hok, v, rfl, own_base hown (by have := hx0.size; simp; omega), hx0.trans hx2.of_alloc⟩
  · have hx0 := hx.of_alloc
    unfold zeroTrial
    go_wp2_with fail
    go_ret2
    exact .inr ⟨hok, rfl, hx0.trans (Ext.alloc _ _)⟩
end Go.Proofs.YtdbendnfgkonbaaDoor

