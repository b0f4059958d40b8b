/- Plain mathematics: what the tests on a fault's way leave, with the fault's results: the fault alone. -/
import Derived.Test.YtdbendnfgkonbaaDoorMathR
import Derived.Test.YtdbendnfgkonbaaDoorLeftC
namespace Go.Proofs.YtdbendnfgkonbaaDoor
set_option linter.unusedVariables false
set_option linter.unusedSimpArgs false

section
variable {n T : Nat} {ones : List Nat} {l : List NodeD} (hv : ∀ i, i < l.length → NodeV n T l.length i (l.getD i default))
include hv
theorem same_way (f f' : Nat) : ∀ d i, i < l.length → l.length - i ≤ d → (∀ t ∈ (wayFrom ones l f i).1, (ones.getD t 0).testBit f' = (ones.getD t 0).testBit f) → wayFrom ones l f' i = wayFrom ones l f i
  | 0, i, hi, hd, _ => by omega
  | d + 1, i, hi, hd, h => by
    by_cases ht : (l.getD i default).test < 0
    · rw [way_leaf hi ht, way_leaf hi ht]
    · obtain ⟨h1, h2⟩ := next_lt (ones := ones) hv (f := f) hi ht
      have hn := way_node (ones := ones) hv (f := f) hi ht
      have hn' := way_node (ones := ones) hv (f := f') hi ht
      rw [hn] at h
      have e : nextOf ones f' (l.getD i default) = nextOf ones f (l.getD i default) := by
        unfold nextOf
        rw [h _ List.mem_cons_self]
      have ih := same_way f f' d _ h2 (by omega) fun t ht' => h t (List.mem_cons_of_mem _ ht')
      rw [hn', e, ih, ← hn]
end

theorem leftTo_bit (ones : List Nat) (f : Nat) : ∀ (rs : List (Nat × Nat)) (s : Nat), (leftTo ones s rs).testBit f = (s.testBit f && rs.all fun p => (ones.getD p.1 0).testBit f == (p.2 == 1))
  | [], s => by simp [leftTo]
  | p :: rs, s => by
    show (leftTo ones (leftS ones s p) rs).testBit f = _
    rw [leftTo_bit ones f rs, List.all_cons, ← Bool.and_assoc]
    congr 1
    unfold leftS
    by_cases h : p.2 = 1
    · rw [if_pos h, Nat.testBit_and, h]
      cases (ones.getD p.1 0).testBit f <;> rfl
    · rw [if_neg h, testBit_sdiff]
      have : (p.2 == 1) = false := by simpa using h
      rw [this]
      cases (ones.getD p.1 0).testBit f <;> rfl

theorem bits_single {s f : Nat} : ∀ n, (∀ k, k < n → s.testBit k = (k == f)) → bitsTo s n = if f < n then [f] else []
  | 0, _ => rfl
  | n + 1, h => by
    rw [bitsTo_step, bits_single n fun k hk => h k (by omega), h n (by omega)]
    by_cases h1 : f < n
    · have : (n == f) = false := by simp; omega
      rw [if_pos h1, if_pos (show f < n + 1 by omega), this]; rfl
    · by_cases h2 : f = n
      · subst h2; simp
      · have : (n == f) = false := by simp; omega
        rw [if_neg h1, if_neg (show ¬ f < n + 1 by omega), this]; rfl

def resOf (ones : List Nat) (f t : Nat) : Nat := if (ones.getD t 0).testBit f then 1 else 0
def waysRs (ones : List Nat) (L : List Nat) (f : Nat) : List (Nat × Nat) := L.map fun t => (t, resOf ones f t)
theorem waysRs_all (ones : List Nat) (f f' : Nat) (L : List Nat) : (waysRs ones L f).all (fun p => (ones.getD p.1 0).testBit f' == (p.2 == 1)) = L.all fun t => (ones.getD t 0).testBit f' == (ones.getD t 0).testBit f := by
  unfold waysRs
  rw [List.all_map]
  congr 1
  funext t
  simp only [Function.comp, resOf]
  cases (ones.getD t 0).testBit f <;> rfl

theorem ways_left {C : CaseD} (hok : caseOk C = true) {l : List NodeD} {p : Int × Int} (h : correctD C l = some p) {f : Nat} (hf : f < C.ws.length) :
    bitsTo (leftTo (C.ts.map mask) (2 ^ C.ws.length - 1) (waysRs (C.ts.map mask) (wayOf (C.ts.map mask) l f).1 f)) C.ws.length = [f] := by
  obtain ⟨hip, hc⟩ := correct_isPlan h
  obtain ⟨hlen, hv⟩ := isPlan_valid hip
  obtain ⟨s, m⟩ := p
  obtain ⟨i1, _, _, _⟩ := correctTo_inv _ s m (Nat.le_refl _) hc
  rw [bits_single (f := f), if_pos hf]
  intro k hk
  rw [leftTo_bit, waysRs_all, bit_all hk, Bool.true_and, Bool.eq_iff_iff, List.all_eq_true, beq_iff_eq]
  constructor
  · intro h
    have e := same_way (ones := C.ts.map mask) hv f k l.length 0 (by omega) (by omega) fun t ht => beq_iff_eq.1 (h t ht)
    have e1 := i1 k hk
    have e2 := i1 f hf
    unfold wayOf at e1 e2
    rw [e, e2] at e1
    omega
  · intro e t ht
    rw [e]
    exact beq_self_eq_true _
theorem ways_cost {C : CaseD} {l : List NodeD} {s m : Int} (h : correctD C l = some (s, m)) {f : Nat} (hf : f < C.ws.length) : costOf C.cs (wayOf (C.ts.map mask) l f).1 ≤ m := by
  obtain ⟨hip, hc⟩ := correct_isPlan h
  exact (correctTo_inv _ s m (Nat.le_refl _) hc).2.2.1 f hf
theorem ways_leaves {C : CaseD} (hok : caseOk C = true) (hal : alikeL (C.ts.map mask) C.ws.length = []) (m : Meas) : (bestPlan C m).countP (fun x => x.test == -1) = C.ws.length ∧ (bestPlan C m).length ≤ 20 := by
  obtain ⟨h1, h2, h3⟩ := all_facts hok
  have h := planL_leaves h1 (bestSelFree (m := m) h1 hal) 10 (2 ^ C.ws.length - 1) 0 (pop_le _) trivial h2 h3
  have h' := planL_len h1 (bestSelFree (m := m) h1 hal) 10 (2 ^ C.ws.length - 1) 0 (pop_le _) trivial h2 h3
  rw [pop_all _ h1] at h h'
  refine ⟨h, ?_⟩
  show (planL _ _ _ _).length ≤ 20
  omega
theorem ways_list {C : CaseD} {l : List NodeD} {p : Int × Int} (h : correctD C l = some p) (f : Nat) : (wayOf (C.ts.map mask) l f).1.length ≤ l.length ∧ ∀ x ∈ (wayOf (C.ts.map mask) l f).1, x < C.ts.length := by
  obtain ⟨hip, _⟩ := correct_isPlan h
  obtain ⟨hlen, hv⟩ := isPlan_valid hip
  have := way_tests (ones := C.ts.map mask) hv f l.length 0 (by omega) (by omega)
  rw [Nat.sub_zero] at this
  exact this
theorem row_val {C : CaseD} (hok : caseOk C = true) {t f : Nat} {row : List Int} {x : Int} (ht : C.ts[t]? = some row) (hx : row[f]? = some x) : x = (resOf (C.ts.map mask) f t : Int) := by
  have h01 := badRow_01 (caseOk_row hok (List.mem_of_getElem? ht)).2
  have hm : (C.ts.map mask).getD t 0 = mask row := by rw [List.getD_eq_getElem?_getD, List.getElem?_map, ht]; rfl
  have hg : row.getD f 0 = x := by rw [List.getD_eq_getElem?_getD, hx]; rfl
  unfold resOf
  rw [hm, mask_bit h01, hg]
  have := h01 f
  rw [hg] at this
  rcases this with e | e <;> rw [e] <;> decide
theorem countP_take {l : List NodeD} {j : Nat} {x : NodeD} (h : l[j]? = some x) (p : NodeD → Bool) : (l.take (j + 1)).countP p = (l.take j).countP p + if p x then 1 else 0 := by
  rw [List.take_add_one, h, List.countP_append]
  simp
theorem countP_take_le (l : List NodeD) (j : Nat) (p : NodeD → Bool) : (l.take j).countP p ≤ j := Nat.le_trans List.countP_le_length (by rw [List.length_take]; omega)
theorem waysRs_take (ones : List Nat) (f : Nat) {L : List Nat} {j t : Nat} (h : L[j]? = some t) : waysRs ones (L.take (j + 1)) f = waysRs ones (L.take j) f ++ [(t, resOf ones f t)] := by
  rw [List.take_add_one, h]
  simp [waysRs]
end Go.Proofs.YtdbendnfgkonbaaDoor
