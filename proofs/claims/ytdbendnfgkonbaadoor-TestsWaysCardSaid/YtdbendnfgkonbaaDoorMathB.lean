/- Plain mathematics: sets of faults as bits; the best test for a set, and what its plan costs. -/
import Derived.Test.YtdbendnfgkonbaaDoorBits
import Derived.Test.YtdbendnfgkonbaaDoorMathA
namespace Go.Proofs.YtdbendnfgkonbaaDoor
set_option linter.unusedVariables false
set_option linter.unusedSimpArgs false

/-- The faults of s that are not in o. -/
def sdiff (s o : Nat) : Nat := s ^^^ (s &&& o)
theorem testBit_sdiff (s o i : Nat) : (sdiff s o).testBit i = (s.testBit i && !o.testBit i) := by
  unfold sdiff
  rw [Nat.testBit_xor, Nat.testBit_and]
  cases s.testBit i <;> cases o.testBit i <;> rfl
theorem testBit_lt {s n i : Nat} (hs : s < 2 ^ n) (h : s.testBit i = true) : i < n := by
  refine Classical.byContradiction fun hi => ?_
  have : s < 2 ^ i := Nat.lt_of_lt_of_le hs (Nat.pow_le_pow_right (by omega) (by omega))
  rw [Nat.testBit_lt_two_pow this] at h
  cases h
theorem lt_of_bits {s n : Nat} (h : ∀ i, s.testBit i = true → i < n) : s < 2 ^ n := by
  refine Nat.lt_pow_two_of_testBit s fun i hi => ?_
  cases hb : s.testBit i with
  | false => rfl
  | true => have := h i hb; omega
theorem sdiff_lt {s o n : Nat} (hs : s < 2 ^ n) : sdiff s o < 2 ^ n := lt_of_bits fun i hi => by
  rw [testBit_sdiff, Bool.and_eq_true] at hi
  exact testBit_lt hs hi.1
theorem and_lt {s o n : Nat} (hs : s < 2 ^ n) : s &&& o < 2 ^ n := lt_of_bits fun i hi => by
  rw [Nat.testBit_and, Bool.and_eq_true] at hi
  exact testBit_lt hs hi.1

theorem bits_and_u64 (s o : Nat) (hs : s < 2 ^ 63) (ho : o < 2 ^ 63) : bits BinOp.and IntKind.u64 (s : Int) (o : Int) = ((s &&& o : Nat) : Int) := by
  have hw : ∀ n : Int, 0 ≤ n → n < 2 ^ 63 → IntKind.u64.wrap n = n := fun n h0 h1 => by simp [IntKind.wrap, IntKind.bits, IntKind.signed]; omega
  exact (bits_nat .u64 63 (by decide) hw s o hs ho).1
theorem bits_not_u64 (s o : Nat) (hs : s < 2 ^ 63) (ho : o < 2 ^ 63) : bits BinOp.andNot IntKind.u64 (s : Int) (o : Int) = ((sdiff s o : Nat) : Int) := by
  have hw : ∀ n : Int, 0 ≤ n → n < 2 ^ 63 → IntKind.u64.wrap n = n := fun n h0 h1 => by simp [IntKind.wrap, IntKind.bits, IntKind.signed]; omega
  have e : (BitVec.ofInt IntKind.u64.bits (s : Int) &&& ~~~(BitVec.ofInt IntKind.u64.bits (o : Int))).toNat = sdiff s o := by
    apply Nat.eq_of_testBit_eq
    intro i
    rw [BitVec.testBit_toNat, testBit_sdiff, BitVec.getLsbD_and, BitVec.getLsbD_not, BitVec.ofInt_natCast, BitVec.ofInt_natCast, BitVec.getLsbD_ofNat, BitVec.getLsbD_ofNat]
    by_cases hi : i < 64
    · simp [IntKind.bits, hi]
    · have : s.testBit i = false := by
        cases hb : s.testBit i with
        | false => rfl
        | true => have := testBit_lt hs hb; omega
      simp [IntKind.bits, hi, this]
  unfold bits
  show IntKind.u64.wrap ((BitVec.ofInt IntKind.u64.bits (s : Int) &&& ~~~(BitVec.ofInt IntKind.u64.bits (o : Int))).toNat : Int) = _
  rw [e]
  exact hw _ (by omega) (by have := sdiff_lt (o := o) hs; omega)

theorem pop_split (s o : Nat) : pop (s &&& o) + pop (sdiff s o) = pop s := by
  unfold pop
  generalize List.range 10 = l
  induction l with
  | nil => rfl
  | cons x r ih =>
    simp only [List.countP_cons, Nat.testBit_and, testBit_sdiff]
    cases s.testBit x <;> cases o.testBit x <;> simp <;> omega
theorem pop_pos {s : Nat} (hs : s < 1024) (h : s ≠ 0) : 0 < pop s := by
  unfold pop
  rw [List.countP_pos_iff]
  refine Classical.byContradiction fun hn => h ?_
  apply Nat.eq_of_testBit_eq
  intro i
  rw [Nat.zero_testBit]
  cases hb : s.testBit i with
  | false => rfl
  | true => exact absurd ⟨i, List.mem_range.2 (testBit_lt (n := 10) hs hb), hb⟩ hn
theorem pop_le (s : Nat) : pop s ≤ 10 := by
  unfold pop
  exact Nat.le_trans List.countP_le_length (by simp)

/-- A measure: what a test costs for a set, with what its two parts cost. -/
abbrev Meas := Nat → Nat → Int → Int → Int

/-- Does test o split the set s? -/
def splits (o s : Nat) : Bool := !(s &&& o == 0) && !(sdiff s o == 0)

def stepCh (m : Meas) (ones : List Nat) (cost : Nat → Int) (s : Nat) : Nat → Int × Int
  | 0 => (-1, 0)
  | k + 1 =>
    let l := stepCh m ones cost s k
    let o := ones.getD k 0
    if splits o s then
      let c := m k s (cost (sdiff s o)) (cost (s &&& o))
      if l.1 < 0 ∨ c < l.2 then ((k : Int), c) else l
    else l

def costF (m : Meas) (ones : List Nat) : Nat → Nat → Int
  | 0, _ => 0
  | f + 1, s => if pop s = 1 then 0 else (stepCh m ones (costF m ones f) s ones.length).2
def cost (m : Meas) (ones : List Nat) (s : Nat) : Int := costF m ones 11 s
def choice (m : Meas) (ones : List Nat) (s : Nat) : Int × Int := stepCh m ones (cost m ones) s ones.length

theorem splits_parts {o s : Nat} (hs : s < 1024) (h : splits o s = true) : s &&& o ≠ 0 ∧ sdiff s o ≠ 0 ∧ pop (s &&& o) < pop s ∧ pop (sdiff s o) < pop s := by
  simp only [splits, Bool.and_eq_true, Bool.not_eq_true', beq_eq_false_iff_ne] at h
  have h1 := pop_pos (and_lt (n := 10) (o := o) hs) h.1
  have h2 := pop_pos (sdiff_lt (n := 10) (o := o) hs) h.2
  have := pop_split s o
  exact ⟨h.1, h.2, by omega, by omega⟩

theorem stepCh_congr (m : Meas) (ones : List Nat) (c1 c2 : Nat → Int) (s : Nat) (hs : s < 1024) (h : ∀ p, p < 1024 → pop p < pop s → c1 p = c2 p) : ∀ k, stepCh m ones c1 s k = stepCh m ones c2 s k
  | 0 => rfl
  | k + 1 => by
    have ih := stepCh_congr m ones c1 c2 s hs h k
    simp only [stepCh, ih]
    by_cases hsp : splits (ones.getD k 0) s = true
    · obtain ⟨_, _, h3, h4⟩ := splits_parts hs hsp
      rw [h _ (sdiff_lt (n := 10) hs) h4, h _ (and_lt (n := 10) hs) h3]
    · rw [if_neg hsp, if_neg hsp]

theorem costF_enough (m : Meas) (ones : List Nat) : ∀ f s, s < 1024 → pop s ≤ f → costF m ones f s = costF m ones (f + 1) s
  | 0, s, hs, hp => by
    have h0 : pop s = 0 := by omega
    have hne : pop s ≠ 1 := by omega
    have hz : s = 0 := by
      refine Classical.byContradiction fun h => ?_
      have := pop_pos hs h
      omega
    subst hz
    show (0 : Int) = if pop 0 = 1 then 0 else (stepCh m ones (costF m ones 0) 0 ones.length).2
    rw [if_neg hne]
    have : ∀ k, (stepCh m ones (costF m ones 0) 0 k).2 = 0 := by
      intro k
      induction k with
      | zero => rfl
      | succ k ih => simp [stepCh, splits, ih]
    exact (this _).symm
  | f + 1, s, hs, hp => by
    show (if pop s = 1 then 0 else (stepCh m ones (costF m ones f) s ones.length).2) = if pop s = 1 then 0 else (stepCh m ones (costF m ones (f + 1)) s ones.length).2
    rw [stepCh_congr m ones (costF m ones f) (costF m ones (f + 1)) s hs fun p hp' hlt => costF_enough m ones f p hp' (by omega)]

theorem cost_eq (m : Meas) (ones : List Nat) (s : Nat) (hs : s < 1024) : cost m ones s = if pop s = 1 then 0 else (choice m ones s).2 := by
  have h10 := pop_le s
  show (if pop s = 1 then 0 else (stepCh m ones (costF m ones 10) s ones.length).2) = _
  unfold choice
  rw [stepCh_congr m ones (costF m ones 10) (cost m ones) s hs fun p hp hlt => costF_enough m ones 10 p hp (by have := pop_le p; omega)]

/-- A measure is tame: at most a million more than the parts. -/
def Tame (m : Meas) (ones : List Nat) (n : Nat) : Prop := ∀ k s z o, k < ones.length → s < 2 ^ n → 0 ≤ z → 0 ≤ o → 0 ≤ m k s z o ∧ m k s z o ≤ 1000000 + z + o

theorem cost_bd (m : Meas) (ones : List Nat) (n : Nat) (hn : n ≤ 10) (hm : Tame m ones n) : ∀ N s, pop s ≤ N → s < 2 ^ n → s ≠ 0 → 0 ≤ cost m ones s ∧ cost m ones s ≤ 1000000 * ((pop s : Int) - 1)
  | 0, s, hp, hs, h0 => by
    have h1 : s < 1024 := Nat.lt_of_lt_of_le hs (Nat.le_trans (Nat.pow_le_pow_right (by omega) hn) (by decide : 2 ^ 10 ≤ 1024))
    have := pop_pos h1 h0
    omega
  | N + 1, s, hp, hs, h0 => by
    have h1 : s < 1024 := Nat.lt_of_lt_of_le hs (Nat.le_trans (Nat.pow_le_pow_right (by omega) hn) (by decide : 2 ^ 10 ≤ 1024))
    have hpp := pop_pos h1 h0
    rw [cost_eq m ones s h1]
    by_cases he : pop s = 1
    · rw [if_pos he]; omega
    · rw [if_neg he]
      have key : ∀ k, k ≤ ones.length → 0 ≤ (stepCh m ones (cost m ones) s k).2 ∧ (stepCh m ones (cost m ones) s k).2 ≤ 1000000 * ((pop s : Int) - 1) := by
        intro k
        induction k with
        | zero => intro _; simp [stepCh]; omega
        | succ k ih =>
          intro hk
          have ih' := ih (by omega)
          simp only [stepCh]
          by_cases hsp : splits (ones.getD k 0) s = true
          · obtain ⟨a1, a2, a3, a4⟩ := splits_parts h1 hsp
            have b1 := cost_bd m ones n hn hm N (s &&& ones.getD k 0) (by omega) (and_lt hs) a1
            have b2 := cost_bd m ones n hn hm N (sdiff s (ones.getD k 0)) (by omega) (sdiff_lt hs) a2
            have b3 := hm k s _ _ (by omega) hs b2.1 b1.1
            have b4 := pop_split s (ones.getD k 0)
            rw [if_pos hsp]
            split
            · dsimp only; omega
            · exact ih'
          · rw [if_neg hsp]; exact ih'
      exact key _ (Nat.le_refl _)
end Go.Proofs.YtdbendnfgkonbaaDoor
