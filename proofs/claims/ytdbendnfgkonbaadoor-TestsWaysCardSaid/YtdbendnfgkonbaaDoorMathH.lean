/- Plain mathematics for TestsMore: the three further cases. -/
import Derived.Test.YtdbendnfgkonbaaDoorMathG
import Derived.Test.YtdbendnfgkonbaaDoorDoublesM
namespace Go.Proofs.YtdbendnfgkonbaaDoor
set_option linter.unusedVariables false
set_option linter.unusedSimpArgs false

theorem wsum_nn {C : CaseD} (hok : caseOk C = true) (s : Nat) : 0 ≤ wsum C.ws s := (wsum_bd hok s).1
theorem meanM_mono {C : CaseD} (hok : caseOk C = true) : MonoM (meanM C) (C.ts.map mask).length where
  mono := fun k s z z' o o' hk h1 h2 => by unfold meanM; omega
  left := fun k s z o hk h1 h2 => by
    rw [List.length_map] at hk
    have := Int.mul_nonneg (show 0 ≤ C.cs.getD k 0 by have := getD_c hok hk; omega) (wsum_nn hok s)
    unfold meanM; omega
  right := fun k s z o hk h1 h2 => by
    rw [List.length_map] at hk
    have := Int.mul_nonneg (show 0 ≤ C.cs.getD k 0 by have := getD_c hok hk; omega) (wsum_nn hok s)
    unfold meanM; omega
theorem worstM_mono {C : CaseD} (hok : caseOk C = true) : MonoM (worstM C) (C.ts.map mask).length where
  mono := fun k s z z' o o' hk h1 h2 => by unfold worstM; omega
  left := fun k s z o hk h1 h2 => by
    rw [List.length_map] at hk
    have := getD_c hok hk
    unfold worstM; omega
  right := fun k s z o hk h1 h2 => by
    rw [List.length_map] at hk
    have := getD_c hok hk
    unfold worstM; omega

theorem all_facts {C : CaseD} (hok : caseOk C = true) : C.ws.length ≤ 10 ∧ 2 ^ C.ws.length - 1 < 2 ^ C.ws.length ∧ 2 ^ C.ws.length - 1 ≠ 0 := by
  have hn := caseOk_n hok
  have := Nat.pow_le_pow_right (n := 2) (by omega) hn.1
  have hp : 0 < 2 ^ C.ws.length := Nat.two_pow_pos _
  exact ⟨hn.2, by omega, by omega⟩

theorem caseOk_mk {C : CaseD} (h1 : 1 ≤ C.ws.length ∧ C.ws.length ≤ 10) (h2 : C.ts.length ≤ 12) (h3 : C.cs.length = C.ts.length) (h4 : ∀ x ∈ C.ws, 1 ≤ x ∧ x ≤ 1000) (h5 : ∀ x ∈ C.cs, 1 ≤ x ∧ x ≤ 100)
    (h6 : ∀ r ∈ C.ts, r.length = C.ws.length ∧ badRow r = false) : caseOk C = true := by
  simp only [caseOk, Bool.and_eq_true, decide_eq_true_eq]
  refine ⟨⟨⟨⟨⟨(inR_iff _ _ _).2 (by omega), h2⟩, h3⟩, ?_⟩, ?_⟩, ?_⟩
  · have : badWs C.ws = false := by
      unfold badWs
      rw [List.any_eq_false]
      intro x hx
      rw [(inR_iff x 1 1000).2 (h4 x hx)]; decide
    rw [this]; rfl
  · have : badCs C.cs = false := by
      unfold badCs
      rw [List.any_eq_false]
      intro x hx
      rw [(inR_iff x 1 100).2 (h5 x hx)]; decide
    rw [this]; rfl
  · rw [List.all_eq_true]
    intro r hr
    obtain ⟨a, b⟩ := h6 r hr
    simp [rowOk, a, b]

def moreC (X : CaseD) (r : List Int) (c : Int) : CaseD := ⟨X.ws, X.ts ++ [r], X.cs ++ [c]⟩
theorem more_ok {X : CaseD} (hok : caseOk X = true) (h11 : X.ts.length ≤ 11) {r : List Int} {c : Int} (hr : r.length = X.ws.length ∧ badRow r = false) (hc : 1 ≤ c ∧ c ≤ 100) : caseOk (moreC X r c) = true := by
  have h3 := caseOk_cs hok
  refine caseOk_mk (C := moreC X r c) (show 1 ≤ X.ws.length ∧ X.ws.length ≤ 10 from caseOk_n hok) ?_ ?_ (fun x hx => caseOk_w hok (show x ∈ X.ws from hx)) ?_ ?_
  · show (X.ts ++ [r]).length ≤ 12
    rw [List.length_append]; simp; omega
  · show (X.cs ++ [c]).length = (X.ts ++ [r]).length
    rw [List.length_append, List.length_append, h3]; rfl
  · intro x hx
    rcases List.mem_append.1 hx with h | h
    · exact caseOk_c hok h
    · rw [List.mem_singleton.1 h]; exact hc
  · intro x hx
    rcases List.mem_append.1 hx with h | h
    · exact caseOk_row hok h
    · rw [List.mem_singleton.1 h]; exact hr
theorem more_ones (X : CaseD) (r : List Int) (c : Int) : (moreC X r c).ts.map mask = X.ts.map mask ++ [mask r] := by simp [moreC]
theorem more_alike {X : CaseD} (hal : alikeL (X.ts.map mask) X.ws.length = []) (r : List Int) (c : Int) : alikeL ((moreC X r c).ts.map mask) (moreC X r c).ws.length = [] := by
  rw [more_ones, alikeL_nil_iff]
  intro b a hb ha
  obtain ⟨x, hx, hne⟩ := (alikeL_nil_iff _ _).1 hal b a hb ha
  exact ⟨x, List.mem_append_left _ hx, hne⟩
theorem getD_left {α : Type} {l r : List α} {k : Nat} {d : α} (h : k < l.length) : (l ++ r).getD k d = l.getD k d := by
  rw [List.getD_eq_getElem?_getD, List.getD_eq_getElem?_getD, List.getElem?_append_left h]
theorem more_law {X : CaseD} (hok : caseOk X = true) (hal : alikeL (X.ts.map mask) X.ws.length = []) (r : List Int) (c : Int) :
    bestCost (moreC X r c) (meanM (moreC X r c)) ≤ bestCost X (meanM X) ∧ bestCost (moreC X r c) (worstM (moreC X r c)) ≤ bestCost X (worstM X) := by
  obtain ⟨h1, h2, h3⟩ := all_facts hok
  have h4 := caseOk_cs hok
  unfold bestCost
  rw [more_ones]
  have hlen : (X.ts.map mask).length ≤ (X.ts.map mask ++ [mask r]).length := by simp
  have hg : ∀ k, k < (X.ts.map mask).length → (X.cs ++ [c]).getD k 0 = X.cs.getD k 0 := fun k hk => getD_left (by rw [List.length_map] at hk; omega)
  exact ⟨cost_more h1 hal hlen (fun k hk => getD_left hk) (fun k s z o hk => by unfold meanM moreC; dsimp only; rw [hg k hk]) (meanM_mono hok) 10 _ (pop_le _) h2 h3,
    cost_more h1 hal hlen (fun k hk => getD_left hk) (fun k s z o hk => by unfold worstM moreC; dsimp only; rw [hg k hk]) (worstM_mono hok) 10 _ (pop_le _) h2 h3⟩

def timesC (X : CaseD) (k : Int) : CaseD := ⟨X.ws, X.ts, X.cs.map fun c => k * c⟩
theorem times_ok {X : CaseD} (hok : caseOk X = true) {k : Int} (h : ∀ x ∈ X.cs, 1 ≤ k * x ∧ k * x ≤ 100) : caseOk (timesC X k) = true :=
  costs_ok hok _ (by simp) fun x hx => by
    obtain ⟨y, hy, rfl⟩ := List.mem_map.1 hx
    exact h y hy
theorem times_law {X : CaseD} (hok : caseOk X = true) (hal : alikeL (X.ts.map mask) X.ws.length = []) {k : Int} (hk : 0 ≤ k) :
    bestCost (timesC X k) (meanM (timesC X k)) = k * bestCost X (meanM X) ∧ bestCost (timesC X k) (worstM (timesC X k)) = k * bestCost X (worstM X) := by
  obtain ⟨h1, h2, h3⟩ := all_facts hok
  have hg : ∀ j, (X.cs.map fun c => k * c).getD j 0 = k * X.cs.getD j 0 := fun j => by
    rw [List.getD_eq_getElem?_getD, List.getD_eq_getElem?_getD, List.getElem?_map]
    cases X.cs[j]? <;> simp
  unfold bestCost
  refine ⟨cost_times k hk h1 hal (fun j s z o hj => ?_) 10 _ (pop_le _) h2 h3, cost_times k hk h1 hal (fun j s z o hj => ?_) 10 _ (pop_le _) h2 h3⟩
  · unfold meanM timesC
    dsimp only
    rw [hg, Int.mul_add, Int.mul_add, Int.mul_assoc]
  · unfold worstM timesC
    dsimp only
    rw [hg, Int.mul_add]
    congr 1
    rcases Int.le_total z o with h | h
    · rw [Int.max_eq_right h, Int.max_eq_right (Int.mul_le_mul_of_nonneg_left h hk)]
    · rw [Int.max_eq_left h, Int.max_eq_left (Int.mul_le_mul_of_nonneg_left h hk)]

def lessC (X : CaseD) (f : Nat) : CaseD := ⟨X.ws.eraseIdx f, X.ts.map fun r => r.eraseIdx f, X.cs⟩
theorem getD_erase (l : List Int) (f i : Nat) : (l.eraseIdx f).getD i 0 = l.getD (up f i) 0 := by
  rw [List.getD_eq_getElem?_getD, List.getD_eq_getElem?_getD, List.getElem?_eraseIdx]
  unfold up
  split <;> rfl
theorem less_mask {row : List Int} (h : badRow row = false) (f : Nat) : badRow (row.eraseIdx f) = false ∧ mask (row.eraseIdx f) = comp f (mask row) := by
  have h1 : badRow (row.eraseIdx f) = false := by
    unfold badRow at h ⊢
    rw [List.any_eq_false] at h ⊢
    exact fun x hx => h x (List.mem_of_mem_eraseIdx hx)
  refine ⟨h1, Nat.eq_of_testBit_eq fun i => ?_⟩
  rw [comp_bit, mask_bit (badRow_01 h1), mask_bit (badRow_01 h), getD_erase]
theorem less_ok {X : CaseD} (hok : caseOk X = true) {f : Nat} (hf : f < X.ws.length) (h2 : 2 ≤ X.ws.length) : caseOk (lessC X f) = true := by
  have hn := caseOk_n hok
  have hl : (X.ws.eraseIdx f).length = X.ws.length - 1 := by rw [List.length_eraseIdx, if_pos hf]
  refine caseOk_mk (C := lessC X f) ?_ ?_ ?_ (fun x hx => caseOk_w hok (List.mem_of_mem_eraseIdx hx)) (fun x hx => caseOk_c hok hx) fun r hr => ?_
  · show 1 ≤ (X.ws.eraseIdx f).length ∧ (X.ws.eraseIdx f).length ≤ 10
    omega
  · show (X.ts.map _).length ≤ 12
    rw [List.length_map]; exact caseOk_ts hok
  · show X.cs.length = (X.ts.map _).length
    rw [List.length_map]; exact caseOk_cs hok
  · obtain ⟨r0, hr0, rfl⟩ := List.mem_map.1 hr
    obtain ⟨a, b⟩ := caseOk_row hok hr0
    refine ⟨?_, (less_mask b f).1⟩
    show (r0.eraseIdx f).length = (X.ws.eraseIdx f).length
    rw [hl, List.length_eraseIdx, if_pos (by omega), a]
theorem less_ones {X : CaseD} (hok : caseOk X = true) (f : Nat) : (lessC X f).ts.map mask = (X.ts.map mask).map (comp f) := by
  show (X.ts.map fun r => r.eraseIdx f).map mask = (X.ts.map mask).map (comp f)
  rw [List.map_map, List.map_map]
  exact List.map_congr_left fun r hr => (less_mask (caseOk_row hok hr).2 f).2
theorem less_alike {X : CaseD} (hok : caseOk X = true) (hal : alikeL (X.ts.map mask) X.ws.length = []) {f : Nat} (hf : f < X.ws.length) : alikeL ((lessC X f).ts.map mask) (lessC X f).ws.length = [] := by
  have hl : (lessC X f).ws.length = X.ws.length - 1 := by show (X.ws.eraseIdx f).length = _; rw [List.length_eraseIdx, if_pos hf]
  rw [less_ones hok, hl, alikeL_nil_iff]
  intro b a hb ha
  obtain ⟨x, hx, hne⟩ := (alikeL_nil_iff _ _).1 hal (up f b) (up f a) (up_lt hf hb) (up_inj ha)
  exact ⟨comp f x, List.mem_map.2 ⟨x, hx, rfl⟩, by rw [comp_bit, comp_bit]; exact hne⟩

theorem wTo_less {ws : List Int} {f : Nat} (s : Nat) (hf : f < ws.length) (hw : ∀ x ∈ ws, 0 ≤ x) : ∀ k, k ≤ ws.length - 1 → wTo (ws.eraseIdx f) (comp f s) k ≤ if k < f then wTo ws s k else wTo ws s (k + 1)
  | 0, _ => by
    have h0 : 0 ≤ ws.getD 0 0 := by rw [List.getD_eq_getElem?_getD, List.getElem?_eq_getElem (by omega)]; exact hw _ (List.getElem_mem _)
    simp only [wTo]
    split
    · omega
    · split <;> omega
  | k + 1, hk => by
    have ih := wTo_less s hf hw k (by omega)
    have hnn : ∀ i, 0 ≤ ws.getD i 0 := fun i => by
      rw [List.getD_eq_getElem?_getD]
      by_cases hi : i < ws.length
      · rw [List.getElem?_eq_getElem hi]; exact hw _ (List.getElem_mem _)
      · rw [List.getElem?_eq_none (by omega)]; exact Int.le_refl _
    have hstep : wTo (ws.eraseIdx f) (comp f s) (k + 1) = wTo (ws.eraseIdx f) (comp f s) k + if s.testBit (up f k) then ws.getD (up f k) 0 else 0 := by
      rw [wTo, comp_bit, getD_erase]
    rw [hstep]
    by_cases hkf : k < f
    · rw [if_pos hkf] at ih
      have hup : up f k = k := by unfold up; rw [if_pos hkf]
      rw [hup]
      have hs1 : wTo ws s (k + 1) = wTo ws s k + if s.testBit k then ws.getD k 0 else 0 := rfl
      by_cases hk1 : k + 1 < f
      · rw [if_pos hk1, hs1]; omega
      · rw [if_neg hk1]
        have hs2 : wTo ws s (k + 1 + 1) = wTo ws s (k + 1) + if s.testBit (k + 1) then ws.getD (k + 1) 0 else 0 := rfl
        rw [hs2, hs1]
        have := hnn (k + 1)
        have : 0 ≤ (if s.testBit (k + 1) then ws.getD (k + 1) 0 else 0) := by split <;> omega
        omega
    · rw [if_neg hkf] at ih
      rw [if_neg (show ¬ k + 1 < f by omega)]
      have hup : up f k = k + 1 := by unfold up; rw [if_neg hkf]
      have hs2 : wTo ws s (k + 1 + 1) = wTo ws s (k + 1) + if s.testBit (k + 1) then ws.getD (k + 1) 0 else 0 := rfl
      rw [hup, hs2]
      omega
theorem wsum_less {X : CaseD} (hok : caseOk X = true) {f : Nat} (hf : f < X.ws.length) (s : Nat) : wsum (X.ws.eraseIdx f) (comp f s) ≤ wsum X.ws s := by
  have hl : (X.ws.eraseIdx f).length = X.ws.length - 1 := by rw [List.length_eraseIdx, if_pos hf]
  have := wTo_less s hf (fun x hx => by have := caseOk_w hok hx; omega) (X.ws.length - 1) (Nat.le_refl _)
  unfold wsum
  rw [hl]
  rw [if_neg (by omega)] at this
  rw [show X.ws.length - 1 + 1 = X.ws.length by omega] at this
  exact this

theorem less_law {X : CaseD} (hok : caseOk X = true) (hal : alikeL (X.ts.map mask) X.ws.length = []) {f : Nat} (hf : f < X.ws.length) (h2 : 2 ≤ X.ws.length) :
    bestCost (lessC X f) (meanM (lessC X f)) ≤ bestCost X (meanM X) ∧ bestCost (lessC X f) (worstM (lessC X f)) ≤ bestCost X (worstM X) := by
  obtain ⟨h1, h3, h4⟩ := all_facts hok
  have hl : (lessC X f).ws.length = X.ws.length - 1 := by show (X.ws.eraseIdx f).length = _; rw [List.length_eraseIdx, if_pos hf]
  have hc0 : comp f (2 ^ X.ws.length - 1) ≠ 0 := by
    rw [comp_all hf]
    have := Nat.pow_le_pow_right (n := 2) (by omega) (show 1 ≤ X.ws.length - 1 by omega)
    omega
  have hpre : ∀ k, k < (X.ts.map mask).length → ((X.ts.map mask).map (comp f)).getD k 0 = comp f ((X.ts.map mask).getD k 0) := fun k hk => by
    rw [List.getD_eq_getElem?_getD, List.getD_eq_getElem?_getD, List.getElem?_map, List.getElem?_eq_getElem hk]
    rfl
  have hpos : ∀ k, k < (X.ts.map mask).length → 0 ≤ X.cs.getD k 0 := fun k hk => by
    rw [List.length_map] at hk
    have := getD_c hok hk
    omega
  unfold bestCost
  rw [less_ones hok, hl, ← comp_all hf]
  exact ⟨cost_less h1 hf hal (by simp) hpre (fun k s z o hk hs => by
      have := Int.mul_le_mul_of_nonneg_left (wsum_less hok hf s) (hpos k hk)
      show X.cs.getD k 0 * wsum (X.ws.eraseIdx f) (comp f s) + z + o ≤ X.cs.getD k 0 * wsum X.ws s + z + o
      omega) (meanM_mono hok) 10 _ (pop_le _) h3 hc0,
    cost_less h1 hf hal (by simp) hpre (fun k s z o hk hs => Int.le_refl _) (worstM_mono hok) 10 _ (pop_le _) h3 hc0⟩
theorem one_law {X : CaseD} (hok : caseOk X = true) (h1 : X.ws.length = 1) (m : Meas) : bestCost X m = 0 := by
  unfold bestCost
  rw [h1]
  exact cost_one (by decide) (by decide)
theorem best_bd {X : CaseD} (hok : caseOk X = true) : 0 ≤ bestCost X (meanM X) ∧ bestCost X (meanM X) ≤ 10000000 ∧ 0 ≤ bestCost X (worstM X) ∧ bestCost X (worstM X) ≤ 10000000 := by
  obtain ⟨h1, h2, h3⟩ := all_facts hok
  have hp := pop_le (2 ^ X.ws.length - 1)
  have a := cost_bd (meanM X) (X.ts.map mask) X.ws.length h1 (meanC X hok).tame 10 _ hp h2 h3
  have b := cost_bd (worstM X) (X.ts.map mask) X.ws.length h1 (worstC X hok).tame 10 _ hp h2 h3
  unfold bestCost
  omega
end Go.Proofs.YtdbendnfgkonbaaDoor
