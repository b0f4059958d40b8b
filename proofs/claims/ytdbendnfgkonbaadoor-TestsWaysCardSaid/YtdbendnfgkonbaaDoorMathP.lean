/- Plain mathematics: the plan that a choice of tests makes is a plan, leads each fault to its leaf, and costs what the measure says; no correct plan costs less. -/
import Derived.Test.YtdbendnfgkonbaaDoorCosts
import Derived.Test.YtdbendnfgkonbaaDoorMathG
import Derived.Test.YtdbendnfgkonbaaDoorMathH
namespace Go.Proofs.YtdbendnfgkonbaaDoor
set_option linter.unusedVariables false
set_option linter.unusedSimpArgs false

/-! ### the first fault of a set -/
theorem tz_bit {s : Nat} (hs : s < 1024) (h0 : s ≠ 0) : s.testBit (tz s) = true := by
  have hp := pop_pos hs h0
  unfold pop at hp
  obtain ⟨i, hi, hb⟩ := List.countP_pos_iff.1 hp
  unfold tz
  cases hf : (List.range 10).find? s.testBit with
  | none => rw [List.find?_eq_none] at hf; exact absurd hb (hf i hi)
  | some j => exact List.find?_some hf
theorem tz_only {s f : Nat} (hs : s < 1024) (hp : pop s = 1) (hf : s.testBit f = true) : f = tz s := by
  have h0 : s ≠ 0 := by rintro rfl; simp at hf
  have hb := tz_bit hs h0
  rcases Nat.lt_trichotomy f (tz s) with h | h | h
  · exact absurd hp (pop_two hs hf hb h)
  · exact h
  · exact absurd hp (pop_two hs hb hf h)

/-! ### the plan that a choice makes is a plan -/
def planRun (n T : Nat) (l : List NodeD) : Nat → Nat → List Int → Option (List Int)
  | 0, _, U => some U
  | d + 1, i, U => (nodeStep n T l.length i (l.getD i default) U).bind (planRun n T l d (i + 1))
theorem planRun_add (n T : Nat) (l : List NodeD) : ∀ a b i U, planRun n T l (a + b) i U = (planRun n T l a i U).bind (planRun n T l b (i + a))
  | 0, b, i, U => by rw [Nat.zero_add]; rfl
  | a + 1, b, i, U => by
    rw [show a + 1 + b = (a + b) + 1 by omega, planRun, planRun]
    cases nodeStep n T l.length i (l.getD i default) U with
    | none => rfl
    | some V =>
      show planRun n T l (a + b) (i + 1) V = (planRun n T l a (i + 1) V).bind (planRun n T l b (i + (a + 1)))
      rw [planRun_add n T l a b (i + 1) V, show i + 1 + a = i + (a + 1) by omega]
theorem planTo_run (n T : Nat) (l : List NodeD) : ∀ k, planTo n T l k = planRun n T l k 0 []
  | 0 => rfl
  | k + 1 => by
    rw [planRun_add n T l k 1 0 [], planTo, planTo_run n T l k, Nat.zero_add]
    congr 1
    funext U
    rw [planRun]
    cases nodeStep n T l.length k (l.getD k default) U <;> rfl

/-- The list P lies in l from position b on. -/
def Sub (l : List NodeD) (b : Nat) (P : List NodeD) : Prop := ∀ j x, P[j]? = some x → l[b + j]? = some x
theorem Sub.left {l P Q : List NodeD} {b : Nat} (h : Sub l b (P ++ Q)) : Sub l b P := fun j x hx => h j x (by
  have := (List.getElem?_eq_some_iff.1 hx).1
  rw [List.getElem?_append_left this]; exact hx)
theorem Sub.right {l P Q : List NodeD} {b : Nat} (h : Sub l b (P ++ Q)) : Sub l (b + P.length) Q := fun j x hx => by
  have := h (P.length + j) x (by rw [List.getElem?_append_right (by omega)]; simpa using hx)
  rwa [← Nat.add_assoc] at this
theorem Sub.tail {l P : List NodeD} {x : NodeD} {b : Nat} (h : Sub l b (x :: P)) : Sub l (b + 1) P := fun j y hy => by
  have := h (j + 1) y (by simpa using hy)
  rwa [show b + (j + 1) = b + 1 + j by omega] at this
theorem Sub.head {l P : List NodeD} {x : NodeD} {b : Nat} (h : Sub l b (x :: P)) : l[b]? = some x := h 0 x rfl
theorem Sub.le {l P : List NodeD} {b : Nat} (h : Sub l b P) (hP : P ≠ []) : b + P.length ≤ l.length := by
  have hl : P.length - 1 < P.length := by have := List.length_pos_iff.2 hP; omega
  have := h (P.length - 1) _ (List.getElem?_eq_getElem hl)
  have := (List.getElem?_eq_some_iff.1 this).1
  omega

section
variable {ones : List Nat} {n : Nat} {sel : Nat → Nat} {dom : Nat → Prop}

theorem planL_ne (hn : n ≤ 10) (h : SelOk ones n sel dom) {s b : Nat} (hd : dom s) (hs : s < 2 ^ n) (h0 : s ≠ 0) : planL sel ones s b ≠ [] := by
  have h1 := planL_len hn h 10 s b (pop_le s) hd hs h0
  have h2 := pop_pos (pow_10 hn hs) h0
  intro e
  rw [e] at h1
  simp at h1
  omega

theorem plan_run (hn : n ≤ 10) (h : SelOk ones n sel dom) (l : List NodeD) : ∀ N s b U, pop s ≤ N → dom s → s < 2 ^ n → s ≠ 0 → Sub l b (planL sel ones s b) →
    (∀ j : Nat, b < j → j < b + (planL sel ones s b).length → (j : Int) ∉ U) →
    ∃ U', planRun n ones.length l (planL sel ones s b).length b U = some U' ∧ U'.length + 1 = U.length + (planL sel ones s b).length ∧ ∀ r : Int, r ∈ U' → r ∈ U ∨ ((b : Int) < r ∧ r < b + (planL sel ones s b).length)
  | 0, s, b, U, hp, hd, hs, h0, _, _ => by
    have := pop_pos (pow_10 hn hs) h0
    omega
  | N + 1, s, b, U, hp, hd, hs, h0, hsub, hU => by
    have h1 := pow_10 hn hs
    have hle := hsub.le (planL_ne hn h hd hs h0)
    by_cases hp1 : pop s = 1
    · rw [planL_leaf _ _ _ _ hp1] at hsub hle ⊢
      have htz : tz s < n := testBit_lt hs (tz_bit h1 h0)
      refine ⟨U, ?_, by simp, fun r hr => .inl hr⟩
      show (nodeStep n ones.length l.length b (l.getD b default) U).bind _ = some U
      rw [getD_default hsub.head]
      have : nodeStep n ones.length l.length b ⟨-1, (tz s : Int), 0, 0⟩ U = some U := by
        unfold nodeStep
        rw [if_pos rfl, if_pos ⟨rfl, rfl, (inR_iff _ _ _).2 (by dsimp only; omega)⟩]
      rw [this]
      rfl
    · obtain ⟨q1, q2, q3, q4⟩ := h.ok s hd hs h0 hp1
      obtain ⟨a1, a2, a3, a4⟩ := splits_parts h1 q2
      rw [planL_node hn h s b hd hs h0 hp1] at hsub hle hU ⊢
      obtain ⟨zs, hzs⟩ : ∃ zs, planL sel ones (sdiff s (ones.getD (sel s) 0)) (b + 1) = zs := ⟨_, rfl⟩
      have hz := plan_run hn h l N (sdiff s (ones.getD (sel s) 0)) (b + 1)
      have hzne := planL_ne hn h (b := b + 1) q4 (sdiff_lt hs) a2
      rw [hzs] at hsub hle hU hz hzne ⊢
      obtain ⟨os, hos⟩ : ∃ os, planL sel ones (s &&& ones.getD (sel s) 0) (b + 1 + zs.length) = os := ⟨_, rfl⟩
      have ho := plan_run hn h l N (s &&& ones.getD (sel s) 0) (b + 1 + zs.length)
      have hone := planL_ne hn h (b := b + 1 + zs.length) q3 (and_lt hs) a1
      rw [hos] at hsub hle hU ho hone ⊢
      have hlz := List.length_pos_iff.2 hzne
      have hlo := List.length_pos_iff.2 hone
      simp only [List.length_cons, List.length_append] at hle hU ⊢
      have hstep : nodeStep n ones.length l.length b ⟨(sel s : Int), 0, (b : Int) + 1, (b : Int) + 1 + (zs.length : Int)⟩ U = some (((b : Int) + 1 + (zs.length : Int)) :: ((b : Int) + 1) :: U) := by
        have m1 : ((b : Int) + 1) ∉ U := by
          have := hU (b + 1) (by omega) (by omega)
          simpa using this
        have m2 : ((b : Int) + 1 + (zs.length : Int)) ∉ U := by
          have := hU (b + 1 + zs.length) (by omega) (by omega)
          simpa using this
        have m3 : ((b : Int) + 1 + (zs.length : Int)) ≠ (b : Int) + 1 := by omega
        unfold nodeStep
        rw [if_neg (by dsimp only; omega), if_pos]
        refine ⟨(inR_iff _ _ _).2 (by dsimp only; omega), rfl, ?_, ?_⟩
        · unfold enterB
          rw [(inR_iff _ _ _).2 (by dsimp only; omega)]
          simpa using m1
        · unfold enterB
          rw [(inR_iff _ _ _).2 (by dsimp only; omega)]
          have hc : (((b : Int) + 1) :: U).contains ((b : Int) + 1 + (zs.length : Int)) = false := by
            rw [List.contains_cons]
            simp only [Bool.or_eq_false_iff, beq_eq_false_iff_ne]
            exact ⟨m3, by simpa using m2⟩
          dsimp only
          rw [hc]; rfl
      obtain ⟨U1, r1, r2, r3⟩ := hz (((b : Int) + 1 + (zs.length : Int)) :: ((b : Int) + 1) :: U) (by omega) q4 (sdiff_lt hs) a2 hsub.tail.left (by
        intro j hj1 hj2 hm
        rcases List.mem_cons.1 hm with e | hm
        · omega
        · rcases List.mem_cons.1 hm with e | hm
          · omega
          · exact hU j (by omega) (by omega) hm)
      obtain ⟨U2, t1, t2, t3⟩ := ho U1 (by omega) q3 (and_lt hs) a1 hsub.tail.right (by
        intro j hj1 hj2 hm
        rcases r3 _ hm with hm | hm
        · rcases List.mem_cons.1 hm with e | hm
          · omega
          · rcases List.mem_cons.1 hm with e | hm
            · omega
            · exact hU j (by omega) (by omega) hm
        · omega)
      refine ⟨U2, ?_, ?_, ?_⟩
      · rw [planRun, getD_default hsub.head]
        have e : (⟨(sel s : Int), 0, (b : Int) + 1, (b : Int) + 1 + (zs.length : Int)⟩ : NodeD) = ⟨↑(sel s), 0, ↑b + 1, ↑b + 1 + ↑zs.length⟩ := rfl
        rw [hstep]
        show planRun n ones.length l (zs.length + os.length) (b + 1) _ = some U2
        rw [planRun_add, r1]
        exact t1
      · simp only [List.length_cons] at r2
        omega
      · intro r hr
        rcases t3 r hr with hm | hm
        · rcases r3 r hm with hm | hm
          · rcases List.mem_cons.1 hm with e | hm
            · exact .inr (by omega)
            · rcases List.mem_cons.1 hm with e | hm
              · exact .inr (by omega)
              · exact .inl hm
          · exact .inr (by omega)
        · exact .inr (by omega)

theorem planL_isPlan (hn : n ≤ 10) (h : SelOk ones n sel dom) (s : Nat) (hd : dom s) (hs : s < 2 ^ n) (h0 : s ≠ 0) : isPlanB n ones.length (planL sel ones s 0) = true := by
  obtain ⟨U, h1, h2, _⟩ := plan_run hn h (planL sel ones s 0) 10 s 0 [] (pop_le s) hd hs h0 (fun j x hx => by rw [Nat.zero_add]; exact hx) (fun j _ _ hm => by cases hm)
  have hl := planL_len hn h 10 s 0 (pop_le s) hd hs h0
  have hp := pop_pos (pow_10 hn hs) h0
  have hp2 := pop_le s
  unfold isPlanB
  rw [planTo_run, h1, (inR_iff _ _ _).2 (by omega)]
  simp only [Bool.true_and, beq_iff_eq]
  simp only [List.length_nil, Nat.zero_add] at h2
  omega

/-- As many leaves as faults. -/
theorem planL_leaves (hn : n ≤ 10) (h : SelOk ones n sel dom) : ∀ N s b, pop s ≤ N → dom s → s < 2 ^ n → s ≠ 0 → (planL sel ones s b).countP (fun x => x.test == -1) = pop s
  | 0, s, b, hp, hd, hs, h0 => by
    have := pop_pos (pow_10 hn hs) h0
    omega
  | N + 1, s, b, hp, hd, hs, h0 => by
    have h1 := pow_10 hn hs
    by_cases hp1 : pop s = 1
    · rw [planL_leaf _ _ _ _ hp1, hp1]; rfl
    · obtain ⟨q1, q2, q3, q4⟩ := h.ok s hd hs h0 hp1
      obtain ⟨a1, a2, a3, a4⟩ := splits_parts h1 q2
      rw [planL_node hn h s b hd hs h0 hp1, List.countP_cons, List.countP_append, planL_leaves hn h N _ _ (by omega) q4 (sdiff_lt hs) a2, planL_leaves hn h N _ _ (by omega) q3 (and_lt hs) a1]
      have : ((((sel s : Nat) : Int)) == -1) = false := by rw [beq_eq_false_iff_ne]; omega
      rw [if_neg (by rw [this]; decide)]
      have := pop_split s (ones.getD (sel s) 0)
      omega
end
end Go.Proofs.YtdbendnfgkonbaaDoor
