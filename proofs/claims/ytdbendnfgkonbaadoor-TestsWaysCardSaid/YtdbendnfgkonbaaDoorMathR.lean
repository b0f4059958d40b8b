/- Plain mathematics: what Check says of a plan that a choice of tests makes; what it says of any plan is no less than the smallest numbers. -/
import Derived.Test.YtdbendnfgkonbaaDoorMathQ
namespace Go.Proofs.YtdbendnfgkonbaaDoor
set_option linter.unusedVariables false
set_option linter.unusedSimpArgs false

section
variable {C : CaseD} {n : Nat} {sel : Nat → Nat} {dom : Nat → Prop} {l : List NodeD}

theorem plan_step (hn : C.ws.length ≤ 10) (h : SelOk (C.ts.map mask) C.ws.length sel dom) (hv : ∀ i, i < l.length → NodeV C.ws.length C.ts.length l.length i (l.getD i default)) {s b : Nat} (hd : dom s) (hs : s < 2 ^ C.ws.length) (h0 : s ≠ 0) (hp1 : pop s ≠ 1) (hsub : Sub l b (planL sel (C.ts.map mask) s b)) :
    ∃ bz bo, Sub l bz (planL sel (C.ts.map mask) (sdiff s ((C.ts.map mask).getD (sel s) 0)) bz) ∧ Sub l bo (planL sel (C.ts.map mask) (s &&& (C.ts.map mask).getD (sel s) 0) bo) ∧
      ∀ f, wayFrom (C.ts.map mask) l f b = (sel s :: (wayFrom (C.ts.map mask) l f (if ((C.ts.map mask).getD (sel s) 0).testBit f then bo else bz)).1, (wayFrom (C.ts.map mask) l f (if ((C.ts.map mask).getD (sel s) 0).testBit f then bo else bz)).2) := by
  have hle := hsub.le (planL_ne hn h hd hs h0)
  rw [planL_node hn h s b hd hs h0 hp1] at hsub hle
  refine ⟨b + 1, b + 1 + (planL sel (C.ts.map mask) (sdiff s ((C.ts.map mask).getD (sel s) 0)) (b + 1)).length, hsub.tail.left, hsub.tail.right, fun f => ?_⟩
  have hb : b < l.length := by simp only [List.length_cons] at hle; omega
  have hx := getD_default hsub.head
  have ht : ¬ (l.getD b default).test < 0 := by rw [hx]; dsimp only; omega
  rw [way_node hv hb ht, hx]
  unfold nextOf
  dsimp only
  have e1 : ((b : Int) + 1).toNat = b + 1 := by omega
  have e2 : ((b : Int) + 1 + ((planL sel (C.ts.map mask) (sdiff s ((C.ts.map mask).getD (sel s) 0)) (b + 1)).length : Int)).toNat = b + 1 + (planL sel (C.ts.map mask) (sdiff s ((C.ts.map mask).getD (sel s) 0)) (b + 1)).length := by omega
  rw [e1, e2, Int.toNat_natCast]

theorem leaf_way (hv : ∀ i, i < l.length → NodeV C.ws.length C.ts.length l.length i (l.getD i default)) {s b : Nat} (hp1 : pop s = 1) (hsub : Sub l b (planL sel (C.ts.map mask) s b)) (f : Nat) : wayFrom (C.ts.map mask) l f b = ([], (tz s : Int)) := by
  rw [planL_leaf _ _ _ _ hp1] at hsub
  have hx := getD_default hsub.head
  have hb : b < l.length := (List.getElem?_eq_some_iff.1 hsub.head).1
  rw [way_leaf hb (by rw [hx]; show (-1 : Int) < 0; decide), hx]

theorem plan_way (hn : C.ws.length ≤ 10) (h : SelOk (C.ts.map mask) C.ws.length sel dom) (hv : ∀ i, i < l.length → NodeV C.ws.length C.ts.length l.length i (l.getD i default)) : ∀ N s b, pop s ≤ N → dom s → s < 2 ^ C.ws.length → s ≠ 0 → Sub l b (planL sel (C.ts.map mask) s b) →
    ∀ f, s.testBit f = true → (wayFrom (C.ts.map mask) l f b).2 = (f : Int)
  | 0, s, b, hp, hd, hs, h0, hsub, f, hf => by
    have := pop_pos (pow_10 hn hs) h0
    omega
  | N + 1, s, b, hp, hd, hs, h0, hsub, f, hf => by
    have h1 := pow_10 hn hs
    by_cases hp1 : pop s = 1
    · rw [leaf_way hv hp1 hsub, tz_only h1 hp1 hf]
    · obtain ⟨q1, q2, q3, q4⟩ := h.ok s hd hs h0 hp1
      obtain ⟨a1, a2, a3, a4⟩ := splits_parts h1 q2
      obtain ⟨bz, bo, sz, so, hw⟩ := plan_step hn h hv hd hs h0 hp1 hsub
      rw [hw f]
      dsimp only
      cases hO : ((C.ts.map mask).getD (sel s) 0).testBit f with
      | true => exact plan_way hn h hv N _ bo (by omega) q3 (and_lt hs) a1 so f (by rw [Nat.testBit_and, hf, hO]; rfl)
      | false => exact plan_way hn h hv N _ bz (by omega) q4 (sdiff_lt hs) a2 sz f (by rw [testBit_sdiff, hf, hO]; rfl)

theorem costFrom_step {b t x : Nat} {f : Nat} {O : Nat} {bo bz : Nat} (hw : wayFrom (C.ts.map mask) l f b = (t :: (wayFrom (C.ts.map mask) l f (if O.testBit f then bo else bz)).1, (wayFrom (C.ts.map mask) l f (if O.testBit f then bo else bz)).2)) :
    costFrom C l f b = C.cs.getD t 0 + costFrom C l f (if O.testBit f then bo else bz) := by
  unfold costFrom
  rw [hw]
  dsimp only
  rw [costOf_cons]

theorem plan_mean (hok : caseOk C = true) (hal : alikeL (C.ts.map mask) C.ws.length = []) (hv : ∀ i, i < l.length → NodeV C.ws.length C.ts.length l.length i (l.getD i default)) : ∀ N s b, pop s ≤ N → s < 2 ^ C.ws.length → s ≠ 0 → Sub l b (planL (bestSel (meanM C) (C.ts.map mask)) (C.ts.map mask) s b) →
    gsum (fun f => C.ws.getD f 0 * costFrom C l f b) s C.ws.length = cost (meanM C) (C.ts.map mask) s
  | 0, s, b, hp, hs, h0, hsub => by
    have := pop_pos (pow_10 (caseOk_n hok).2 hs) h0
    omega
  | N + 1, s, b, hp, hs, h0, hsub => by
    have hn := (caseOk_n hok).2
    have h1 := pow_10 hn hs
    have hS := bestSelFree (m := meanM C) hn hal
    by_cases hp1 : pop s = 1
    · rw [cost_one h1 hp1, gsum_congr (g' := fun _ => 0) (fun f hf => by unfold costFrom; rw [leaf_way hv hp1 hsub, costOf_nil, Int.mul_zero]), gsum_zero]
    · obtain ⟨q1, q2, q3, q4⟩ := hS.ok s trivial hs h0 hp1
      obtain ⟨a1, a2, a3, a4⟩ := splits_parts h1 q2
      obtain ⟨bz, bo, sz, so, hw⟩ := plan_step hn hS hv trivial hs h0 hp1 hsub
      obtain ⟨_, _, _, hch⟩ := bestSel_ok (m := meanM C) (exists_split hn hal hs h0 hp1)
      have iz := plan_mean hok hal hv N _ bz (by omega) (sdiff_lt hs) a2 sz
      have io := plan_mean hok hal hv N _ bo (by omega) (and_lt hs) a1 so
      obtain ⟨t, ht⟩ : ∃ t, bestSel (meanM C) (C.ts.map mask) s = t := ⟨_, rfl⟩
      obtain ⟨O, hO⟩ : ∃ O, (C.ts.map mask).getD t 0 = O := ⟨_, rfl⟩
      rw [ht, hO] at hw hch iz io
      have b2 : ∀ f, (s &&& O).testBit f = true → O.testBit f = true := fun f hf => by rw [Nat.testBit_and, Bool.and_eq_true] at hf; exact hf.2
      have b1 : ∀ f, (sdiff s O).testBit f = true → O.testBit f = false := fun f hf => by rw [testBit_sdiff, Bool.and_eq_true, Bool.not_eq_true'] at hf; exact hf.2
      have e1 : gsum (fun f => C.ws.getD f 0 * costFrom C l f b) s C.ws.length = C.cs.getD t 0 * wsum C.ws s + gsum (fun f => C.ws.getD f 0 * costFrom C l f bz) (sdiff s O) C.ws.length + gsum (fun f => C.ws.getD f 0 * costFrom C l f bo) (s &&& O) C.ws.length := by
        rw [gsum_congr (g' := fun f => C.ws.getD f 0 * (C.cs.getD t 0 + costFrom C l f (if O.testBit f then bo else bz))) (fun f _ => by rw [costFrom_step (x := 0) (hw f)]), gsum_lin, gsum_split (fun f => C.ws.getD f 0 * costFrom C l f (if O.testBit f then bo else bz)) s O, wsum, wTo_gsum,
          gsum_congr (s := sdiff s O) (g' := fun f => C.ws.getD f 0 * costFrom C l f bz) (fun f hf => by rw [b1 f hf]; rfl), gsum_congr (s := s &&& O) (g' := fun f => C.ws.getD f 0 * costFrom C l f bo) (fun f hf => by rw [b2 f hf]; rfl)]
        omega
      rw [e1, iz, io, cost_eq (meanM C) (C.ts.map mask) s h1, if_neg hp1, hch]
      rfl

theorem plan_worst (hok : caseOk C = true) (hal : alikeL (C.ts.map mask) C.ws.length = []) (hv : ∀ i, i < l.length → NodeV C.ws.length C.ts.length l.length i (l.getD i default)) : ∀ N s b, pop s ≤ N → s < 2 ^ C.ws.length → s ≠ 0 → Sub l b (planL (bestSel (worstM C) (C.ts.map mask)) (C.ts.map mask) s b) →
    ∀ f, s.testBit f = true → costFrom C l f b ≤ cost (worstM C) (C.ts.map mask) s
  | 0, s, b, hp, hs, h0, hsub, f, hf => by
    have := pop_pos (pow_10 (caseOk_n hok).2 hs) h0
    omega
  | N + 1, s, b, hp, hs, h0, hsub, f, hf => by
    have hn := (caseOk_n hok).2
    have h1 := pow_10 hn hs
    have hS := bestSelFree (m := worstM C) hn hal
    by_cases hp1 : pop s = 1
    · rw [cost_one h1 hp1]
      unfold costFrom
      rw [leaf_way hv hp1 hsub, costOf_nil]
      exact Int.le_refl _
    · obtain ⟨q1, q2, q3, q4⟩ := hS.ok s trivial hs h0 hp1
      obtain ⟨a1, a2, a3, a4⟩ := splits_parts h1 q2
      obtain ⟨bz, bo, sz, so, hw⟩ := plan_step hn hS hv trivial hs h0 hp1 hsub
      obtain ⟨_, _, _, hch⟩ := bestSel_ok (m := worstM C) (exists_split hn hal hs h0 hp1)
      have iz := plan_worst hok hal hv N _ bz (by omega) (sdiff_lt hs) a2 sz f
      have io := plan_worst hok hal hv N _ bo (by omega) (and_lt hs) a1 so f
      rw [cost_eq (worstM C) (C.ts.map mask) s h1, if_neg hp1, hch, costFrom_step (x := 0) (hw f)]
      show _ ≤ C.cs.getD _ 0 + max _ _
      cases hO : ((C.ts.map mask).getD (bestSel (worstM C) (C.ts.map mask) s) 0).testBit f with
      | true =>
        have := io (by rw [Nat.testBit_and, hf, hO]; rfl)
        simp only [if_true]
        omega
      | false =>
        have := iz (by rw [testBit_sdiff, hf, hO]; rfl)
        simp only [Bool.false_eq_true, if_false]
        omega
end

theorem bit_all {n f : Nat} (hf : f < n) : (2 ^ n - 1).testBit f = true := by rw [Nat.testBit_two_pow_sub_one]; simpa using hf
/-- What Check adds up. -/
theorem correctTo_inv {C : CaseD} {l : List NodeD} : ∀ (k : Nat) (s m : Int), k ≤ C.ws.length → correctTo C l k = some (s, m) →
    (∀ f, f < k → (wayOf (C.ts.map mask) l f).2 = (f : Int)) ∧ s = gsum (fun f => C.ws.getD f 0 * costFrom C l f 0) (2 ^ C.ws.length - 1) k ∧ (∀ f, f < k → costFrom C l f 0 ≤ m) ∧ (m = 0 ∨ ∃ f, f < k ∧ m = costFrom C l f 0)
  | 0, s, m, _, h => by cases h; exact ⟨fun f hf => by omega, rfl, fun f hf => by omega, .inl rfl⟩
  | k + 1, s, m, hk, h => by
    cases hc : correctTo C l k with
    | none =>
      have : correctTo C l (k + 1) = none := by show (correctTo C l k).bind _ = _; rw [hc]; rfl
      rw [this] at h; cases h
    | some p =>
      obtain ⟨s0, m0⟩ := p
      obtain ⟨i1, i2, i3, i4⟩ := correctTo_inv k s0 m0 (by omega) hc
      have h' : (if (wayOf (C.ts.map mask) l k).2 = (k : Int) then some (s0 + C.ws.getD k 0 * costOf C.cs (wayOf (C.ts.map mask) l k).1, max m0 (costOf C.cs (wayOf (C.ts.map mask) l k).1)) else none) = some (s, m) := by
        have : correctTo C l (k + 1) = (if (wayOf (C.ts.map mask) l k).2 = (k : Int) then some (s0 + C.ws.getD k 0 * costOf C.cs (wayOf (C.ts.map mask) l k).1, max m0 (costOf C.cs (wayOf (C.ts.map mask) l k).1)) else none) := by
          show (correctTo C l k).bind _ = _; rw [hc]; rfl
        rw [← this]; exact h
      have hcf : costOf C.cs (wayOf (C.ts.map mask) l k).1 = costFrom C l k 0 := rfl
      rw [hcf] at h'
      by_cases hl : (wayOf (C.ts.map mask) l k).2 = (k : Int)
      · rw [if_pos hl] at h'
        cases h'
        refine ⟨fun f hf => ?_, ?_, fun f hf => ?_, ?_⟩
        · by_cases hfk : f = k
          · rw [hfk]; exact hl
          · exact i1 f (by omega)
        · rw [gsum, bit_all (by omega), if_pos rfl, i2]
        · by_cases hfk : f = k
          · rw [hfk]; omega
          · have := i3 f (by omega); omega
        · by_cases hmm : m0 ≤ costFrom C l k 0
          · exact .inr ⟨k, by omega, by omega⟩
          · rcases i4 with h | ⟨f, hf, h⟩
            · exact .inl (by omega)
            · exact .inr ⟨f, by omega, by omega⟩
      · rw [if_neg hl] at h'; cases h'
theorem correctTo_all {C : CaseD} {l : List NodeD} : ∀ (k : Nat), (∀ f, f < k → (wayOf (C.ts.map mask) l f).2 = (f : Int)) → ∃ p, correctTo C l k = some p
  | 0, _ => ⟨_, rfl⟩
  | k + 1, h => by
    obtain ⟨p, hp⟩ := correctTo_all k fun f hf => h f (by omega)
    obtain ⟨s, m⟩ := p
    exact ⟨_, correctTo_step hp (h k (by omega))⟩

theorem correct_isPlan {C : CaseD} {l : List NodeD} {p : Int × Int} (h : correctD C l = some p) : isPlanB C.ws.length C.ts.length l = true ∧ correctTo C l C.ws.length = some p := by
  unfold correctD at h
  by_cases hp : isPlanB C.ws.length C.ts.length l = true
  · rw [if_pos hp] at h; exact ⟨hp, h⟩
  · rw [if_neg hp] at h; cases h

/-- No correct plan is below the smallest numbers. -/
theorem correct_least {C : CaseD} (hok : caseOk C = true) {l : List NodeD} {p : Int × Int} (h : correctD C l = some p) : bestCost C (meanM C) ≤ p.1 ∧ bestCost C (worstM C) ≤ p.2 := by
  obtain ⟨hp, hc⟩ := correct_isPlan h
  obtain ⟨hlen, hv⟩ := isPlan_valid hp
  obtain ⟨s, m⟩ := p
  obtain ⟨i1, i2, i3, i4⟩ := correctTo_inv _ s m (Nat.le_refl _) hc
  obtain ⟨h1, h2, h3⟩ := all_facts hok
  obtain ⟨r1, f, r2, r3⟩ := lower hok hv h1 l.length 0 (2 ^ C.ws.length - 1) (by omega) (by omega) h2 h3 fun f hf => i1 f (testBit_lt h2 hf)
  have := i3 f (testBit_lt h2 r2)
  dsimp only
  rw [i2]
  exact ⟨r1, Int.le_trans r3 this⟩

theorem selPlan_correct {C : CaseD} (hok : caseOk C = true) {sel : Nat → Nat} {dom : Nat → Prop} (h : SelOk (C.ts.map mask) C.ws.length sel dom) (hall : dom (2 ^ C.ws.length - 1)) : ∃ p, correctD C (planAll C sel) = some p := by
  obtain ⟨h1, h2, h3⟩ := all_facts hok
  have hip := planL_isPlan h1 h (2 ^ C.ws.length - 1) hall h2 h3
  rw [List.length_map] at hip
  obtain ⟨_, hv⟩ := isPlan_valid hip
  obtain ⟨p, hp⟩ := correctTo_all (C := C) (l := planAll C sel) C.ws.length fun f hf => plan_way h1 h hv 10 (2 ^ C.ws.length - 1) 0 (pop_le _) hall h2 h3 (fun j x hx => by rw [Nat.zero_add]; exact hx) f (bit_all hf)
  refine ⟨p, ?_⟩
  unfold correctD
  rw [if_pos (show isPlanB C.ws.length C.ts.length (planAll C sel) = true from hip)]
  exact hp

theorem bestPlan_mean {C : CaseD} (hok : caseOk C = true) (hal : alikeL (C.ts.map mask) C.ws.length = []) : ∃ p, correctD C (bestPlan C (meanM C)) = some p ∧ p.1 = bestCost C (meanM C) := by
  obtain ⟨h1, h2, h3⟩ := all_facts hok
  obtain ⟨p, hp⟩ := selPlan_correct hok (bestSelFree (m := meanM C) h1 hal) trivial
  refine ⟨p, hp, ?_⟩
  obtain ⟨hip, hc⟩ := correct_isPlan hp
  obtain ⟨_, hv⟩ := isPlan_valid hip
  obtain ⟨s, m⟩ := p
  obtain ⟨_, i2, _, _⟩ := correctTo_inv _ s m (Nat.le_refl _) hc
  dsimp only
  rw [i2]
  exact plan_mean hok hal hv 10 _ 0 (pop_le _) h2 h3 (fun j x hx => by rw [Nat.zero_add]; exact hx)
theorem bestPlan_worst {C : CaseD} (hok : caseOk C = true) (hal : alikeL (C.ts.map mask) C.ws.length = []) : ∃ p, correctD C (bestPlan C (worstM C)) = some p ∧ p.2 = bestCost C (worstM C) := by
  obtain ⟨h1, h2, h3⟩ := all_facts hok
  obtain ⟨p, hp⟩ := selPlan_correct hok (bestSelFree (m := worstM C) h1 hal) trivial
  refine ⟨p, hp, ?_⟩
  have hle := (correct_least hok hp).2
  obtain ⟨hip, hc⟩ := correct_isPlan hp
  obtain ⟨_, hv⟩ := isPlan_valid hip
  obtain ⟨s, m⟩ := p
  obtain ⟨_, _, _, i4⟩ := correctTo_inv _ s m (Nat.le_refl _) hc
  dsimp only at hle ⊢
  rcases i4 with h | ⟨f, hf, h⟩
  · have := (best_bd hok).2.2.1
    omega
  · have := plan_worst hok hal hv 10 (2 ^ C.ws.length - 1) 0 (pop_le _) h2 h3 (fun j x hx => by rw [Nat.zero_add]; exact hx) f (bit_all hf)
    have e : cost (worstM C) (C.ts.map mask) (2 ^ C.ws.length - 1) = bestCost C (worstM C) := rfl
    omega
theorem plan_len {C : CaseD} (hok : caseOk C = true) {l : List NodeD} {p : Int × Int} (h : correctD C l = some p) : l.length ≤ 1000 := (isPlan_valid (correct_isPlan h).1).1.2
end Go.Proofs.YtdbendnfgkonbaaDoor
