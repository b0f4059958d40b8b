/- Plain mathematics: what Cover's search finds: a dividing set, none of them shorter. -/
import Derived.Test.YtdbendnfgkonbaaDoorCover
import Derived.Test.YtdbendnfgkonbaaDoorSelM
namespace Go.Proofs.YtdbendnfgkonbaaDoor
set_option linter.unusedVariables false
set_option linter.unusedSimpArgs false

theorem before_short {l b : List Nat} (h : l.length < b.length) : before l b = true := by
  have e : cmpI (l.length : Int) (b.length : Int) = -1 := by unfold cmpI; rw [if_pos (by omega)]
  unfold before
  rw [e]
  simp [or2]
theorem before_len {l b : List Nat} (h : before l b = true) : l.length ≤ b.length := by
  refine Classical.byContradiction fun hn => ?_
  have e : cmpI (l.length : Int) (b.length : Int) = 1 := by unfold cmpI; rw [if_neg (by omega), if_pos (by omega)]
  unfold before at h
  rw [e] at h
  simp [or2] at h

/-- The best of the sets below S: it divides, is such a set, and no such set that divides is shorter. -/
theorem coverTo_spec (ones : List Nat) (n T : Nat) : ∀ (S : Nat) (b : List Nat), coverTo ones n T S = some b →
    dividesB ones b n = true ∧ (∃ s, s < S ∧ b = bitsTo s T) ∧ ∀ s, s < S → dividesB ones (bitsTo s T) n = true → b.length ≤ (bitsTo s T).length
  | 0, b, h => by simp [coverTo] at h
  | S + 1, b, h => by
    rw [coverTo] at h
    unfold better at h
    by_cases hc : (dividesB ones (bitsTo S T) n && beforeO (bitsTo S T) (coverTo ones n T S)) = true
    · rw [if_pos hc] at h
      cases h
      rw [Bool.and_eq_true] at hc
      refine ⟨hc.1, ⟨S, by omega, rfl⟩, fun s hs hd => ?_⟩
      by_cases hss : s = S
      · rw [hss]; exact Nat.le_refl _
      · cases ho : coverTo ones n T S with
        | none => exact absurd ho (coverTo_isSome ones n T s hd S (by omega))
        | some b0 =>
          have h1 := (coverTo_spec ones n T S b0 ho).2.2 s (by omega) hd
          rw [ho] at hc
          have h2 := before_len (show before (bitsTo S T) b0 = true from hc.2)
          omega
    · rw [if_neg hc] at h
      obtain ⟨h1, ⟨s0, h2, h3⟩, h4⟩ := coverTo_spec ones n T S b h
      refine ⟨h1, ⟨s0, by omega, h3⟩, fun s hs hd => ?_⟩
      by_cases hss : s = S
      · subst hss
        rw [hd, h, Bool.true_and] at hc
        refine Classical.byContradiction fun hn => hc (before_short (by omega))
      · exact h4 s (by omega) hd

/-- Every ascending list of tests is a set. -/
theorem bitsTo_all (T : Nat) (p : Nat → Bool) : ∃ s, s < 2 ^ T ∧ bitsTo s T = (List.range T).filter p := by
  induction T with
  | zero => exact ⟨0, by simp, rfl⟩
  | succ T ih =>
    obtain ⟨s, hs, he⟩ := ih
    have e0 : ∀ s', (∀ k, k < T → s'.testBit k = s.testBit k) → bitsTo s' T = bitsTo s T := by
      intro s' h
      unfold bitsTo
      exact List.filter_congr fun k hk => h k (List.mem_range.1 hk)
    have hpow : 2 ^ (T + 1) = 2 * 2 ^ T := by rw [Nat.pow_succ]; omega
    cases hp : p T with
    | true =>
      refine ⟨2 ^ T + s, by omega, ?_⟩
      rw [bitsTo_step, e0 _ fun k hk => by rw [Nat.testBit_two_pow_add_gt hk], he, List.range_succ, List.filter_append, Nat.testBit_two_pow_add_eq]
      have : s.testBit T = false := Nat.testBit_lt_two_pow hs
      rw [this]
      simp [hp]
    | false =>
      refine ⟨s, by omega, ?_⟩
      rw [bitsTo_step, he, List.range_succ, List.filter_append]
      have : s.testBit T = false := Nat.testBit_lt_two_pow hs
      rw [this]
      simp [hp]

theorem coverL_spec {ones : List Nat} {n : Nat} (hal : alikeL ones n = []) :
    dividesB ones (coverL ones n ones.length) n = true ∧ (∃ s, coverL ones n ones.length = bitsTo s ones.length) ∧
      ∀ p : Nat → Bool, dividesB ones ((List.range ones.length).filter p) n = true → (coverL ones n ones.length).length ≤ ((List.range ones.length).filter p).length := by
  obtain ⟨b, hb⟩ := coverTo_found ones n hal
  have e : coverL ones n ones.length = b := by unfold coverL; rw [hb]; rfl
  rw [e]
  obtain ⟨h1, ⟨s, _, h2⟩, h3⟩ := coverTo_spec ones n ones.length _ b hb
  refine ⟨h1, ⟨s, h2⟩, fun p hp => ?_⟩
  obtain ⟨s', hs', he⟩ := bitsTo_all ones.length p
  rw [← he] at hp ⊢
  exact h3 s' hs' hp

theorem bitsTo_nodup (s T : Nat) : (bitsTo s T).Nodup := List.Nodup.sublist List.filter_sublist List.nodup_range

/-- Which faults a list of tests tells apart does not hang on its order. -/
theorem divides_congr {ones l l' : List Nat} {n : Nat} (h : ∀ x, x ∈ l → x ∈ l') (hd : dividesB ones l n = true) : dividesB ones l' n = true := by
  rw [dividesB_iff] at hd ⊢
  intro f g hf hg
  obtain ⟨k, hk, hne⟩ := hd f g hf hg
  exact ⟨k, h k hk, hne⟩

/-- A dividing list without doubles of tests is not shorter than Cover's. -/
theorem coverL_least {ones : List Nat} {n : Nat} (hal : alikeL ones n = []) (l : List Nat) (hl : ∀ x ∈ l, x < ones.length) (hd : dividesB ones l n = true) : (coverL ones n ones.length).length ≤ l.length := by
  have h := (coverL_spec hal).2.2 (fun k => decide (k ∈ l)) (divides_congr (fun x hx => List.mem_filter.2 ⟨List.mem_range.2 (hl x hx), by simpa using hx⟩) hd)
  refine Nat.le_trans h ?_
  refine List.Nodup.length_le_of_subset (List.Nodup.sublist List.filter_sublist List.nodup_range) fun x hx => ?_
  simpa using (List.mem_filter.1 hx).2

theorem coverL_lt {ones : List Nat} {n : Nat} (hal : alikeL ones n = []) : ∀ x ∈ coverL ones n ones.length, x < ones.length := by
  obtain ⟨s, hs⟩ := (coverL_spec hal).2.1
  rw [hs]
  exact bitsTo_lt s _

/-- Without one of its tests, Cover's list does not divide. -/
theorem coverL_tight {ones : List Nat} {n : Nat} (hal : alikeL ones n = []) (k : Nat) (hk : k < (coverL ones n ones.length).length) : dividesB ones ((coverL ones n ones.length).eraseIdx k) n = false := by
  cases hd : dividesB ones ((coverL ones n ones.length).eraseIdx k) n with
  | false => rfl
  | true =>
    have := coverL_least hal _ (fun x hx => coverL_lt hal x (List.mem_of_mem_eraseIdx hx)) hd
    rw [List.length_eraseIdx, if_pos hk] at this
    omega

/-- A case of some of the tests: its alike faults are those that these tests do not tell apart. -/
theorem sub_alike (ones l : List Nat) (n : Nat) : alikeL (l.map fun k => ones.getD k 0) n = [] ↔ dividesB ones l n = true := by
  rw [alikeL_nil_iff, dividesB_iff]
  constructor
  · intro h f g hf hg
    obtain ⟨x, hx, hne⟩ := h f g hf hg
    obtain ⟨k, hk, rfl⟩ := List.mem_map.1 hx
    exact ⟨k, hk, hne⟩
  · intro h b a hb ha
    obtain ⟨k, hk, hne⟩ := h b a hb ha
    exact ⟨_, List.mem_map.2 ⟨k, hk, rfl⟩, hne⟩
end Go.Proofs.YtdbendnfgkonbaaDoor
