/- Plain mathematics for TestsMore: one test more, costs multiplied, one fault less. -/
import Derived.Test.YtdbendnfgkonbaaDoorMathE
namespace Go.Proofs.YtdbendnfgkonbaaDoor
set_option linter.unusedVariables false
set_option linter.unusedSimpArgs false

structure MonoM (m : Meas) (T : Nat) : Prop where
  mono : ∀ k s z z' o o', k < T → z ≤ z' → o ≤ o' → m k s z o ≤ m k s z' o'
  left : ∀ k s z o, k < T → 0 ≤ z → 0 ≤ o → z ≤ m k s z o
  right : ∀ k s z o, k < T → 0 ≤ z → 0 ≤ o → o ≤ m k s z o

theorem cost_nn {m : Meas} {ones : List Nat} {n : Nat} (hn : n ≤ 10) (hal : alikeL ones n = []) (hm : MonoM m ones.length) : ∀ N s, pop s ≤ N → s < 2 ^ n → s ≠ 0 → 0 ≤ cost m ones s
  | 0, s, hp, hs, h0 => by
    have := pop_pos (pow_10 hn hs) h0
    omega
  | N + 1, s, hp, hs, h0 => by
    have h1 := pow_10 hn hs
    by_cases hp1 : pop s = 1
    · rw [cost_one h1 hp1]; exact Int.le_refl _
    · obtain ⟨j, hj, hsp, he⟩ := cost_met (m := m) hn hal hs h0 hp1
      obtain ⟨a1, a2, a3, a4⟩ := splits_parts h1 hsp
      have b := cost_nn hn hal hm N (s &&& ones.getD j 0) (by omega) (and_lt hs) a1
      have c := cost_nn hn hal hm N (sdiff s (ones.getD j 0)) (by omega) (sdiff_lt hs) a2
      have := hm.left j s _ _ hj c b
      rw [he]
      omega

/-- One test more makes no set dearer. -/
theorem cost_more {m m' : Meas} {ones ones' : List Nat} {n : Nat} (hn : n ≤ 10) (hal : alikeL ones n = []) (hle : ones.length ≤ ones'.length) (hpre : ∀ k, k < ones.length → ones'.getD k 0 = ones.getD k 0)
    (hmm : ∀ k s z o, k < ones.length → m' k s z o = m k s z o) (hm : MonoM m ones.length) : ∀ N s, pop s ≤ N → s < 2 ^ n → s ≠ 0 → cost m' ones' s ≤ cost m ones s
  | 0, s, hp, hs, h0 => by
    have := pop_pos (pow_10 hn hs) h0
    omega
  | N + 1, s, hp, hs, h0 => by
    have h1 := pow_10 hn hs
    by_cases hp1 : pop s = 1
    · rw [cost_one h1 hp1, cost_one h1 hp1]; exact Int.le_refl _
    · obtain ⟨j, hj, hsp, he⟩ := cost_met (m := m) hn hal hs h0 hp1
      obtain ⟨a1, a2, a3, a4⟩ := splits_parts h1 hsp
      have b := cost_more hn hal hle hpre hmm hm N (s &&& ones.getD j 0) (by omega) (and_lt hs) a1
      have c := cost_more hn hal hle hpre hmm hm N (sdiff s (ones.getD j 0)) (by omega) (sdiff_lt hs) a2
      have hl := cost_le (m := m') (ones := ones') h1 hp1 (j := j) (by omega) (by rw [hpre j hj]; exact hsp)
      rw [hpre j hj, hmm j _ _ _ hj] at hl
      rw [he]
      exact Int.le_trans hl (hm.mono j s _ _ _ _ hj c b)

/-- All costs times k. -/
theorem cost_times {m m' : Meas} {ones : List Nat} {n : Nat} (k : Int) (hk : 0 ≤ k) (hn : n ≤ 10) (hal : alikeL ones n = []) (hmm : ∀ j s z o, j < ones.length → m' j s (k * z) (k * o) = k * m j s z o) :
    ∀ N s, pop s ≤ N → s < 2 ^ n → s ≠ 0 → cost m' ones s = k * cost m ones s
  | 0, s, hp, hs, h0 => by
    have := pop_pos (pow_10 hn hs) h0
    omega
  | N + 1, s, hp, hs, h0 => by
    have h1 := pow_10 hn hs
    by_cases hp1 : pop s = 1
    · rw [cost_one h1 hp1, cost_one h1 hp1]; simp
    · obtain ⟨j, hj, hsp, he⟩ := cost_met (m := m) hn hal hs h0 hp1
      obtain ⟨j', hj', hsp', he'⟩ := cost_met (m := m') hn hal hs h0 hp1
      obtain ⟨a1, a2, a3, a4⟩ := splits_parts h1 hsp
      obtain ⟨b1, b2, b3, b4⟩ := splits_parts h1 hsp'
      have hl := cost_le (m := m') h1 hp1 hj hsp
      have hl' := cost_le (m := m) h1 hp1 hj' hsp'
      rw [cost_times k hk hn hal hmm N _ (by omega) (and_lt hs) a1, cost_times k hk hn hal hmm N _ (by omega) (sdiff_lt hs) a2, hmm j _ _ _ hj, ← he] at hl
      rw [cost_times k hk hn hal hmm N _ (by omega) (and_lt hs) b1, cost_times k hk hn hal hmm N _ (by omega) (sdiff_lt hs) b2, hmm j' _ _ _ hj'] at he'
      have := Int.mul_le_mul_of_nonneg_left hl' hk
      omega

/-- The set without fault f, the later faults moved down. -/
def up (f i : Nat) : Nat := if i < f then i else i + 1
def comp (f s : Nat) : Nat := (s % 2 ^ f) ||| ((s >>> (f + 1)) <<< f)
theorem comp_bit (f s i : Nat) : (comp f s).testBit i = s.testBit (up f i) := by
  unfold comp up
  rw [Nat.testBit_or, Nat.testBit_mod_two_pow, Nat.testBit_shiftLeft, Nat.testBit_shiftRight]
  by_cases h : i < f
  · have h2 : ¬ i ≥ f := by omega
    simp [h, h2]
  · have h2 : i ≥ f := by omega
    have h3 : f + 1 + (i - f) = i + 1 := by omega
    simp [h, h2, h3]
theorem up_lt {f i n : Nat} (hf : f < n) (hi : i < n - 1) : up f i < n := by unfold up; split <;> omega
theorem up_inj {f a b : Nat} (h : a < b) : up f a < up f b := by unfold up; split <;> split <;> omega
theorem comp_lt {f s n : Nat} (hf : f < n) (hs : s < 2 ^ n) : comp f s < 2 ^ (n - 1) := lt_of_bits fun i hi => by
  rw [comp_bit] at hi
  have := testBit_lt hs hi
  unfold up at this
  split at this <;> omega
theorem comp_and (f s o : Nat) : comp f (s &&& o) = comp f s &&& comp f o := by
  apply Nat.eq_of_testBit_eq; intro i
  rw [comp_bit, Nat.testBit_and, Nat.testBit_and, comp_bit, comp_bit]
theorem comp_sdiff (f s o : Nat) : comp f (sdiff s o) = sdiff (comp f s) (comp f o) := by
  apply Nat.eq_of_testBit_eq; intro i
  rw [comp_bit, testBit_sdiff, testBit_sdiff, comp_bit, comp_bit]
theorem comp_all {f n : Nat} (hf : f < n) : comp f (2 ^ n - 1) = 2 ^ (n - 1) - 1 := by
  apply Nat.eq_of_testBit_eq; intro i
  rw [comp_bit, Nat.testBit_two_pow_sub_one, Nat.testBit_two_pow_sub_one, Bool.eq_iff_iff]
  unfold up
  split <;> simp <;> omega

theorem pop_two {s a b : Nat} (hs : s < 1024) (ha : s.testBit a = true) (hb : s.testBit b = true) (h : a < b) : pop s ≠ 1 := by
  have hsp : splits (2 ^ a) s = true := splits_of ha hb (by rw [Nat.testBit_two_pow_self, Nat.testBit_two_pow_of_ne (by omega)]; decide)
  obtain ⟨h1, h2, _, _⟩ := splits_parts hs hsp
  have p1 := pop_pos (and_lt (n := 10) (o := 2 ^ a) hs) h1
  have p2 := pop_pos (sdiff_lt (n := 10) (o := 2 ^ a) hs) h2
  have := pop_split s (2 ^ a)
  omega
theorem pop_comp {f s n : Nat} (hn : n ≤ 10) (hf : f < n) (hs : s < 2 ^ n) (hp : pop s = 1) (h0 : comp f s ≠ 0) : pop (comp f s) = 1 := by
  refine Classical.byContradiction fun hne => ?_
  obtain ⟨a, b, hab, ha, hb⟩ := two_bits (pow_10 (by omega) (comp_lt hf hs)) h0 hne
  rw [comp_bit] at ha hb
  exact pop_two (pow_10 hn hs) ha hb (up_inj hab) hp

/-- One fault less makes no set dearer. -/
theorem cost_less {m m' : Meas} {ones ones' : List Nat} {n f : Nat} (hn : n ≤ 10) (hf : f < n) (hal : alikeL ones n = []) (hlen : ones'.length = ones.length) (hpre : ∀ k, k < ones.length → ones'.getD k 0 = comp f (ones.getD k 0))
    (hmm : ∀ k s z o, k < ones.length → s < 2 ^ n → m' k (comp f s) z o ≤ m k s z o) (hm : MonoM m ones.length) : ∀ N s, pop s ≤ N → s < 2 ^ n → comp f s ≠ 0 → cost m' ones' (comp f s) ≤ cost m ones s
  | 0, s, hp, hs, h0 => by
    have hs0 : s ≠ 0 := fun e => h0 (by rw [e]; exact Nat.eq_of_testBit_eq fun i => by rw [comp_bit, Nat.zero_testBit, Nat.zero_testBit])
    have := pop_pos (pow_10 hn hs) hs0
    omega
  | N + 1, s, hp, hs, h0 => by
    have hs0 : s ≠ 0 := fun e => h0 (by rw [e]; exact Nat.eq_of_testBit_eq fun i => by rw [comp_bit, Nat.zero_testBit, Nat.zero_testBit])
    have h1 := pow_10 hn hs
    have h2 : comp f s < 1024 := pow_10 (n := n - 1) (by omega) (comp_lt hf hs)
    by_cases hp1 : pop s = 1
    · rw [cost_one h1 hp1, cost_one h2 (pop_comp hn hf hs hp1 h0)]; exact Int.le_refl _
    · obtain ⟨j, hj, hsp, he⟩ := cost_met (m := m) hn hal hs hs0 hp1
      obtain ⟨a1, a2, a3, a4⟩ := splits_parts h1 hsp
      have nb := cost_nn hn hal hm 10 (s &&& ones.getD j 0) (pop_le _) (and_lt hs) a1
      have nc := cost_nn hn hal hm 10 (sdiff s (ones.getD j 0)) (pop_le _) (sdiff_lt hs) a2
      have hL := hm.left j s _ _ hj nc nb
      have hR := hm.right j s _ _ hj nc nb
      rw [← he] at hL hR
      have hand := comp_and f s (ones.getD j 0)
      have hsd := comp_sdiff f s (ones.getD j 0)
      by_cases hq1 : pop (comp f s) = 1
      · rw [cost_one h2 hq1]; omega
      · by_cases ho : comp f (s &&& ones.getD j 0) = 0
        · have e : comp f s = comp f (sdiff s (ones.getD j 0)) := by
            apply Nat.eq_of_testBit_eq; intro i
            have : (comp f (s &&& ones.getD j 0)).testBit i = false := by rw [ho, Nat.zero_testBit]
            rw [comp_bit, Nat.testBit_and] at this
            rw [comp_bit, comp_bit, testBit_sdiff]
            cases h1 : s.testBit (up f i) <;> cases h2 : (ones.getD j 0).testBit (up f i) <;> simp_all
          have := cost_less hn hf hal hlen hpre hmm hm N (sdiff s (ones.getD j 0)) (by omega) (sdiff_lt hs) (by rw [← e]; exact h0)
          rw [e]; omega
        · by_cases hz : comp f (sdiff s (ones.getD j 0)) = 0
          · have e : comp f s = comp f (s &&& ones.getD j 0) := by
              apply Nat.eq_of_testBit_eq; intro i
              have : (comp f (sdiff s (ones.getD j 0))).testBit i = false := by rw [hz, Nat.zero_testBit]
              rw [comp_bit, testBit_sdiff] at this
              rw [comp_bit, comp_bit, Nat.testBit_and]
              cases h1 : s.testBit (up f i) <;> cases h2 : (ones.getD j 0).testBit (up f i) <;> simp_all
            have := cost_less hn hf hal hlen hpre hmm hm N (s &&& ones.getD j 0) (by omega) (and_lt hs) (by rw [← e]; exact h0)
            rw [e]; omega
          · have b := cost_less hn hf hal hlen hpre hmm hm N (s &&& ones.getD j 0) (by omega) (and_lt hs) ho
            have c := cost_less hn hf hal hlen hpre hmm hm N (sdiff s (ones.getD j 0)) (by omega) (sdiff_lt hs) hz
            have hsp2 : splits (ones'.getD j 0) (comp f s) = true := by
              rw [hpre j hj]
              unfold splits
              rw [← hand, ← hsd]
              simp only [Bool.and_eq_true, Bool.not_eq_true', beq_eq_false_iff_ne]
              exact ⟨ho, hz⟩
            have hl := cost_le (m := m') (ones := ones') h2 hq1 (j := j) (by omega) hsp2
            rw [hpre j hj, ← hand, ← hsd] at hl
            rw [he]
            exact Int.le_trans hl (Int.le_trans (hmm j s _ _ hj hs) (hm.mono j s _ _ _ _ hj c b))
end Go.Proofs.YtdbendnfgkonbaaDoor
