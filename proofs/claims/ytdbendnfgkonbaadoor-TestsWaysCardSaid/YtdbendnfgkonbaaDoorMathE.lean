/- Plain mathematics: a row's number, bit by bit; the case that tame makes is a case whose faults all differ. -/
import Derived.Test.YtdbendnfgkonbaaDoorTameA
import Derived.Test.YtdbendnfgkonbaaDoorMathD
namespace Go.Proofs.YtdbendnfgkonbaaDoor
set_option linter.unusedVariables false
set_option linter.unusedSimpArgs false

def Row01 (row : List Int) : Prop := ∀ i, row.getD i 0 = 0 ∨ row.getD i 0 = 1
theorem maskTo_bit (row : List Int) (h : Row01 row) (i : Nat) : ∀ k, (maskTo row k).testBit i = (decide (i < k) && (row.getD i 0 == 1))
  | 0 => by simp [maskTo]
  | k + 1 => by
    have hlt := maskTo_lt row h k
    have ih := maskTo_bit row h i k
    simp only [maskTo]
    rcases h k with e | e
    · rw [e]
      simp only [Int.toNat_zero, Nat.zero_mul, Nat.add_zero]
      rw [ih]
      by_cases hik : i = k
      · subst hik; rw [e]; simp
      · have : decide (i < k + 1) = decide (i < k) := by rw [Bool.eq_iff_iff]; simp; omega
        rw [this]
    · rw [e]
      simp only [Int.toNat_one, Nat.one_mul]
      rw [Nat.add_comm]
      by_cases hik : i = k
      · subst hik
        rw [Nat.testBit_two_pow_add_eq, ih, e]
        simp
      · by_cases hlt2 : i < k
        · rw [Nat.testBit_two_pow_add_gt hlt2, ih]
          simp [hlt2, Nat.lt_succ_of_lt hlt2]
        · have hx : 2 ^ k + maskTo row k < 2 ^ i := Nat.lt_of_lt_of_le (show 2 ^ k + maskTo row k < 2 ^ (k + 1) by rw [Nat.pow_succ]; omega) (Nat.pow_le_pow_right (by omega) (by omega))
          rw [Nat.testBit_lt_two_pow hx]
          have : decide (i < k + 1) = false := by simp; omega
          rw [this]
          rfl
theorem mask_bit {row : List Int} (h : Row01 row) (i : Nat) : (mask row).testBit i = (row.getD i 0 == 1) := by
  rw [mask, maskTo_bit row h]
  by_cases hi : i < row.length
  · simp [hi]
  · have : row.getD i 0 = 0 := by rw [List.getD_eq_getElem?_getD, List.getElem?_eq_none (by omega)]; rfl
    rw [this]
    simp [hi]
theorem badRow_01 {row : List Int} (h : badRow row = false) : Row01 row := badRow_getD h
theorem badRow_of (f : Nat → Int) (n : Nat) (h : ∀ i, f i = 0 ∨ f i = 1) : badRow ((List.range n).map f) = false := by
  unfold badRow
  rw [List.any_eq_false]
  intro x hx
  obtain ⟨i, _, rfl⟩ := List.mem_map.1 hx
  rcases h i with e | e <;> rw [e] <;> decide

theorem tameRow_ok (C : CaseD) (t : Nat) : rowOk (tameN C) (tameRow C t) = true := by
  unfold rowOk tameRow
  rw [badRow_of _ _ fun i => by have := modI_bd ((C.ts.getD t []).getD i 0) (n := 2) (by decide); omega]
  simp
theorem bitRow_ok (n b : Nat) : rowOk n (bitRow n b) = true := by
  unfold rowOk bitRow
  rw [badRow_of _ _ fun i => by have : i / 2 ^ b % 2 < 2 := Nat.mod_lt _ (by omega); omega]
  simp
theorem tameW_bd (C : CaseD) (i : Nat) : 1 ≤ tameW C i ∧ tameW C i ≤ 1000 := by
  unfold tameW
  split
  · have := modI_bd (C.ws.getD i 0) (n := 1000) (by decide); omega
  · omega

theorem tameD_ok (C : CaseD) : caseOk (tameD C) = true := by
  have hn := tameN_bd C
  obtain ⟨l1, l2, l3⟩ := tameTo_len C (min C.ts.length 6) 4
  unfold caseOk tameD
  rw [l1, l2, l3]
  have h1 : inR (tameN C : Int) 1 10 = true := by rw [inR_iff]; omega
  have h2 : badWs (tameTo C (min C.ts.length 6) 4).ws = false := by
    unfold badWs
    rw [List.any_eq_false]
    intro x hx
    obtain ⟨i, _, rfl⟩ := List.mem_map.1 hx
    have := tameW_bd C i
    simp [inR]; omega
  have h3 : badCs (tameTo C (min C.ts.length 6) 4).cs = false := by
    unfold badCs
    rw [List.any_eq_false]
    intro x hx
    rcases List.mem_append.1 hx with hx | hx
    · obtain ⟨i, _, rfl⟩ := List.mem_map.1 hx
      have := modI_bd (C.cs.getD i 0 - 1) (n := 100) (by decide)
      have h : inR (1 + modI (C.cs.getD i 0 - 1) 100) 1 100 = true := (inR_iff _ _ _).2 (by omega)
      show ¬ (!inR (1 + modI (C.cs.getD i 0 - 1) 100) 1 100) = true
      rw [h]; decide
    · obtain ⟨i, _, rfl⟩ := List.mem_map.1 hx
      have := modI_bd (C.cs.getD i 0) (n := 100) (by decide)
      have h : inR (1 + modI (C.cs.getD i 0) 100) 1 100 = true := (inR_iff _ _ _).2 (by omega)
      show ¬ (!inR (1 + modI (C.cs.getD i 0) 100) 1 100) = true
      rw [h]; decide
  have h4 : (tameTo C (min C.ts.length 6) 4).ts.all (rowOk (tameN C)) = true := by
    rw [List.all_eq_true]
    intro x hx
    rcases List.mem_append.1 hx with hx | hx
    · obtain ⟨i, _, rfl⟩ := List.mem_map.1 hx
      exact tameRow_ok C i
    · obtain ⟨i, _, rfl⟩ := List.mem_map.1 hx
      exact bitRow_ok _ i
  rw [h1, h2, h3, h4]
  simp
  omega

theorem nibble : ∀ b, b < 10 → ∀ a, a < b → ∃ t, t < 4 ∧ a / 2 ^ t % 2 ≠ b / 2 ^ t % 2 := by decide
theorem bitRow_bit (n t i : Nat) (hi : i < n) : (mask (bitRow n t)).testBit i = (i / 2 ^ t % 2 == 1) := by
  have h := bitRow_ok n t
  unfold rowOk at h
  rw [Bool.and_eq_true, Bool.not_eq_true'] at h
  rw [mask_bit (badRow_01 h.2)]
  have : (bitRow n t).getD i 0 = ((i / 2 ^ t % 2 : Nat) : Int) := by unfold bitRow; simp [List.getD, hi]
  rw [this]
  have h2 : i / 2 ^ t % 2 < 2 := Nat.mod_lt _ (by omega)
  generalize i / 2 ^ t % 2 = q at h2
  match q, h2 with
  | 0, _ => rfl
  | 1, _ => rfl
theorem tameD_alike (C : CaseD) : alikeL ((tameD C).ts.map mask) (tameD C).ws.length = [] := by
  have hn := tameN_bd C
  obtain ⟨l1, l2, l3⟩ := tameTo_len C (min C.ts.length 6) 4
  unfold tameD
  rw [l1, alikeL_nil_iff]
  intro b a hb ha
  obtain ⟨t, ht, hne⟩ := nibble b (by omega) a ha
  refine ⟨mask (bitRow (tameN C) t), ?_, ?_⟩
  · refine List.mem_map.2 ⟨_, List.mem_append_right _ (List.mem_map.2 ⟨t, List.mem_range.2 ht, rfl⟩), rfl⟩
  · rw [bitRow_bit _ _ _ (by omega), bitRow_bit _ _ _ hb]
    have h1 : a / 2 ^ t % 2 < 2 := Nat.mod_lt _ (by omega)
    have h2 : b / 2 ^ t % 2 < 2 := Nat.mod_lt _ (by omega)
    intro e
    rw [Bool.eq_iff_iff, beq_iff_eq, beq_iff_eq] at e
    omega
theorem tameD_len (C : CaseD) : (tameD C).ts.length ≤ 10 ∧ (tameD C).cs.length = (tameD C).ts.length ∧ 4 ≤ (tameD C).ts.length := by
  obtain ⟨l1, l2, l3⟩ := tameTo_len C (min C.ts.length 6) 4
  unfold tameD
  rw [l2, l3]
  omega
end Go.Proofs.YtdbendnfgkonbaaDoor
