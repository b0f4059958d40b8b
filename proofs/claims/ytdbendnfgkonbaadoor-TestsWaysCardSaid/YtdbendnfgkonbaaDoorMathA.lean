/- Plain mathematics: which tests tell two faults apart; Cover's search finds a list. -/
import Derived.Test.YtdbendnfgkonbaaDoorDivides
namespace Go.Proofs.YtdbendnfgkonbaaDoor
set_option linter.unusedVariables false
set_option linter.unusedSimpArgs false

theorem testBit_div (x f : Nat) : (x / 2 ^ f % 2 = 1) ↔ x.testBit f = true := by
  rw [Nat.testBit_eq_decide_div_mod_eq]
  simp

theorem bit_eq_iff (x g f : Nat) : (x / 2 ^ g % 2 = x / 2 ^ f % 2) ↔ x.testBit g = x.testBit f := by
  have h1 : x / 2 ^ g % 2 < 2 := Nat.mod_lt _ (by omega)
  have h2 : x / 2 ^ f % 2 < 2 := Nat.mod_lt _ (by omega)
  have e1 := testBit_div x g
  have e2 := testBit_div x f
  cases hg : x.testBit g <;> cases hf : x.testBit f <;> simp [hg, hf] at e1 e2 ⊢ <;> omega

theorem resTo_eq_iff (ones : List Nat) (g f : Nat) : ∀ l : List Nat, resTo ones g l = resTo ones f l ↔ ∀ k ∈ l, (ones.getD k 0).testBit g = (ones.getD k 0).testBit f := by
  intro l
  generalize hm : l.length = m
  induction m generalizing l with
  | zero => rw [List.length_eq_zero_iff] at hm; subst hm; simp [resTo]
  | succ m ih =>
    have hne : l ≠ [] := by intro h; subst h; simp at hm
    have hl := List.dropLast_concat_getLast hne
    generalize l.dropLast = r at hl
    generalize l.getLast hne = k at hl
    subst hl
    have ih' := ih r (by simpa using hm)
    rw [resTo_snoc, resTo_snoc]
    have h1 : ones.getD k 0 / 2 ^ g % 2 < 2 := Nat.mod_lt _ (by omega)
    have h2 : ones.getD k 0 / 2 ^ f % 2 < 2 := Nat.mod_lt _ (by omega)
    have h3 := bit_eq_iff (ones.getD k 0) g f
    constructor
    · intro h
      have ha : resTo ones g r = resTo ones f r := by omega
      have hb : ones.getD k 0 / 2 ^ g % 2 = ones.getD k 0 / 2 ^ f % 2 := by omega
      intro x hx
      rw [List.mem_append, List.mem_singleton] at hx
      rcases hx with hx | rfl
      · exact ih'.1 ha x hx
      · exact h3.1 hb
    · intro h
      have ha := ih'.2 fun x hx => h x (by simp [hx])
      have hb := h3.2 (h k (by simp))
      omega

/-- Some test of l tells g and f apart. -/
def Tells (ones l : List Nat) (g f : Nat) : Prop := ∃ k ∈ l, (ones.getD k 0).testBit g ≠ (ones.getD k 0).testBit f

theorem Tells.symm {ones l : List Nat} {g f : Nat} (h : Tells ones l g f) : Tells ones l f g := by
  obtain ⟨k, hk, h⟩ := h
  exact ⟨k, hk, fun e => h e.symm⟩

theorem tells_iff (ones l : List Nat) (g f : Nat) : Tells ones l g f ↔ resTo ones g l ≠ resTo ones f l := by
  rw [ne_eq, resTo_eq_iff]
  unfold Tells
  constructor
  · rintro ⟨k, hk, h⟩ h2
    exact h (h2 k hk)
  · intro h
    refine Classical.byContradiction fun hn => h fun k hk => ?_
    refine Classical.byContradiction fun hk2 => hn ⟨k, hk, hk2⟩

theorem dividesB_iff (ones l : List Nat) (n : Nat) : dividesB ones l n = true ↔ ∀ f g, f < n → g < f → Tells ones l g f := by
  unfold dividesB freshF
  rw [List.all_eq_true]
  constructor
  · intro h f g hf hg
    have := h f (List.mem_range.2 hf)
    simp only [Bool.not_eq_true', List.any_eq_false, List.mem_range, beq_iff_eq] at this
    exact (tells_iff ones l g f).2 (this g hg)
  · intro h f hf
    simp only [Bool.not_eq_true', List.any_eq_false, List.mem_range, beq_iff_eq]
    intro g hg
    exact (tells_iff ones l g f).1 (h f g (List.mem_range.1 hf) hg)

theorem parts_iff (a b x : Nat) : parts a b x = true ↔ x.testBit a ≠ x.testBit b := by
  unfold parts
  cases x.testBit a <;> cases x.testBit b <;> simp

theorem alikeL_nil_iff (ones : List Nat) (n : Nat) : alikeL ones n = [] ↔ ∀ b a, b < n → a < b → ∃ x ∈ ones, x.testBit a ≠ x.testBit b := by
  unfold alikeL allTo
  rw [List.flatMap_eq_nil_iff]
  constructor
  · intro h b a hb ha
    have h1 := h a (List.mem_range.2 (by omega))
    unfold rowTo at h1
    rw [List.map_eq_nil_iff, List.filter_eq_nil_iff] at h1
    have h2 := h1 b (List.mem_range.2 hb)
    simp only [same, Bool.and_eq_true, decide_eq_true_eq, not_and, Bool.not_eq_true', Bool.not_eq_false] at h2
    have h3 := h2 ha
    obtain ⟨x, hx, hp⟩ := List.any_eq_true.1 h3
    exact ⟨x, hx, (parts_iff a b x).1 hp⟩
  · intro h a ha
    unfold rowTo
    rw [List.map_eq_nil_iff, List.filter_eq_nil_iff]
    intro b hb
    simp only [same, Bool.and_eq_true, decide_eq_true_eq, not_and, Bool.not_eq_true', Bool.not_eq_false]
    intro hab
    obtain ⟨x, hx, hp⟩ := h b a (List.mem_range.1 hb) hab
    exact List.any_eq_true.2 ⟨x, hx, (parts_iff a b x).2 hp⟩

theorem tells_range {ones : List Nat} {g f : Nat} : Tells ones (List.range ones.length) g f ↔ ∃ x ∈ ones, x.testBit g ≠ x.testBit f := by
  constructor
  · rintro ⟨k, hk, h⟩
    have hk' := List.mem_range.1 hk
    refine ⟨ones[k], List.getElem_mem hk', ?_⟩
    simpa [List.getD, hk'] using h
  · rintro ⟨x, hx, h⟩
    obtain ⟨k, hk, rfl⟩ := List.getElem_of_mem hx
    exact ⟨k, List.mem_range.2 hk, by simpa [List.getD, hk] using h⟩

theorem divides_all_iff (ones : List Nat) (n : Nat) : dividesB ones (List.range ones.length) n = true ↔ alikeL ones n = [] := by
  rw [dividesB_iff, alikeL_nil_iff]
  constructor
  · intro h b a hb ha
    exact tells_range.1 (h b a hb ha)
  · intro h f g hf hg
    exact tells_range.2 (h f g hf hg)
end Go.Proofs.YtdbendnfgkonbaaDoor
