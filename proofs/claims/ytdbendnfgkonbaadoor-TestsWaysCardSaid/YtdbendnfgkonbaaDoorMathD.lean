/- Plain mathematics: the cost of a set is least over the tests that split it; the worst of a case whose costs are all 1. -/
import Derived.Test.YtdbendnfgkonbaaDoorMathC
import Derived.Test.YtdbendnfgkonbaaDoorOptimal
namespace Go.Proofs.YtdbendnfgkonbaaDoor
set_option linter.unusedVariables false
set_option linter.unusedSimpArgs false

theorem stepCh_least (m : Meas) (ones : List Nat) (cost : Nat → Int) (s : Nat) : ∀ k j, j < k → splits (ones.getD j 0) s = true →
    0 ≤ (stepCh m ones cost s k).1 ∧ (stepCh m ones cost s k).2 ≤ m j s (cost (sdiff s (ones.getD j 0))) (cost (s &&& ones.getD j 0))
  | 0, j, h, _ => by omega
  | k + 1, j, h, hsp => by
    rw [stepCh]
    dsimp only
    by_cases hk : j = k
    · subst hk
      rw [if_pos hsp]
      by_cases hc : (stepCh m ones cost s j).1 < 0 ∨ m j s (cost (sdiff s (ones.getD j 0))) (cost (s &&& ones.getD j 0)) < (stepCh m ones cost s j).2
      · rw [if_pos hc]
        exact ⟨by dsimp only; omega, Int.le_refl _⟩
      · rw [if_neg hc]
        omega
    · obtain ⟨h1, h2⟩ := stepCh_least m ones cost s k j (by omega) hsp
      by_cases hs2 : splits (ones.getD k 0) s = true
      · rw [if_pos hs2]
        split
        · rename_i hc
          exact ⟨by dsimp only; omega, by dsimp only; omega⟩
        · exact ⟨h1, h2⟩
      · rw [if_neg hs2]
        exact ⟨h1, h2⟩

/-- No test that splits a set makes it cheaper. -/
theorem cost_le {m : Meas} {ones : List Nat} {s j : Nat} (hs : s < 1024) (hp : pop s ≠ 1) (hj : j < ones.length) (hsp : splits (ones.getD j 0) s = true) :
    cost m ones s ≤ m j s (cost m ones (sdiff s (ones.getD j 0))) (cost m ones (s &&& ones.getD j 0)) := by
  rw [cost_eq m ones s hs, if_neg hp]
  exact (stepCh_least m ones (cost m ones) s ones.length j hj hsp).2
theorem cost_one {m : Meas} {ones : List Nat} {s : Nat} (hs : s < 1024) (hp : pop s = 1) : cost m ones s = 0 := by
  rw [cost_eq m ones s hs, if_pos hp]
/-- Some test makes its cost. -/
theorem cost_met {m : Meas} {ones : List Nat} {n s : Nat} (hn : n ≤ 10) (hal : alikeL ones n = []) (hs : s < 2 ^ n) (h0 : s ≠ 0) (hp : pop s ≠ 1) :
    ∃ j, j < ones.length ∧ splits (ones.getD j 0) s = true ∧ cost m ones s = m j s (cost m ones (sdiff s (ones.getD j 0))) (cost m ones (s &&& ones.getD j 0)) := by
  have h1 : s < 1024 := Nat.lt_of_lt_of_le hs (Nat.le_trans (Nat.pow_le_pow_right (by omega) hn) (by decide : 2 ^ 10 ≤ 1024))
  obtain ⟨_, a, b, c⟩ := bestSel_ok (m := m) (exists_split hn hal hs h0 hp)
  exact ⟨_, a, b, by rw [cost_eq m ones s h1, if_neg hp]; exact c⟩

theorem pow_10 {s n : Nat} (hn : n ≤ 10) (hs : s < 2 ^ n) : s < 1024 := Nat.lt_of_lt_of_le hs (Nat.le_trans (Nat.pow_le_pow_right (by omega) hn) (by decide : 2 ^ 10 ≤ 1024))

/-- The measure is the worst at costs 1. -/
def OneM (m : Meas) (T : Nat) : Prop := ∀ k s z o, k < T → m k s z o = 1 + max z o

theorem one_bounds {m : Meas} {ones : List Nat} {n : Nat} (hn : n ≤ 10) (hal : alikeL ones n = []) (hm : OneM m ones.length) : ∀ N s, pop s ≤ N → s < 2 ^ n → s ≠ 0 →
    0 ≤ cost m ones s ∧ cost m ones s ≤ (pop s : Int) - 1 ∧ pop s ≤ 2 ^ (cost m ones s).toNat
  | 0, s, hp, hs, h0 => by
    have := pop_pos (pow_10 hn hs) h0
    omega
  | N + 1, s, hp, hs, h0 => by
    have h1 := pow_10 hn hs
    by_cases hp1 : pop s = 1
    · rw [cost_one h1 hp1, hp1]
      simp
    · obtain ⟨j, hj, hsp, he⟩ := cost_met (m := m) hn hal hs h0 hp1
      obtain ⟨a1, a2, a3, a4⟩ := splits_parts h1 hsp
      obtain ⟨b1, b2, b3⟩ := one_bounds hn hal hm N (s &&& ones.getD j 0) (by omega) (and_lt hs) a1
      obtain ⟨c1, c2, c3⟩ := one_bounds hn hal hm N (sdiff s (ones.getD j 0)) (by omega) (sdiff_lt hs) a2
      have hsum := pop_split s (ones.getD j 0)
      rw [hm j s _ _ hj] at he
      generalize cost m ones (sdiff s (ones.getD j 0)) = z at *
      generalize cost m ones (s &&& ones.getD j 0) = o at *
      rw [he]
      refine ⟨by omega, by omega, ?_⟩
      have e : (1 + max z o).toNat = max z.toNat o.toNat + 1 := by omega
      rw [e, Nat.pow_succ]
      have d1 : 2 ^ z.toNat ≤ 2 ^ max z.toNat o.toNat := Nat.pow_le_pow_right (by omega) (by omega)
      have d2 : 2 ^ o.toNat ≤ 2 ^ max z.toNat o.toNat := Nat.pow_le_pow_right (by omega) (by omega)
      omega

/-- A list of tests that tells all faults of a set apart is as long as its worst, at costs 1. -/
theorem one_list {m : Meas} {ones : List Nat} {n : Nat} (hn : n ≤ 10) (hm : OneM m ones.length) : ∀ L (l : List Nat) s, l.length ≤ L → (∀ k ∈ l, k < ones.length) → s < 2 ^ n → s ≠ 0 →
    (∀ a b, s.testBit a = true → s.testBit b = true → a < b → Tells ones l a b) → cost m ones s ≤ L := by
  intro L
  induction L with
  | zero =>
    intro l s hl _ hs h0 ht
    have h1 := pow_10 hn hs
    by_cases hp1 : pop s = 1
    · rw [cost_one h1 hp1]; simp
    · obtain ⟨a, b, hab, ha, hb⟩ := two_bits h1 h0 hp1
      obtain ⟨k, hk, _⟩ := ht a b ha hb hab
      have : l = [] := List.length_eq_zero_iff.1 (by omega)
      rw [this] at hk
      cases hk
  | succ L ih =>
    intro l s hl hlt hs h0 ht
    have h1 := pow_10 hn hs
    by_cases hp1 : pop s = 1
    · rw [cost_one h1 hp1]; omega
    · obtain ⟨a, b, hab, ha, hb⟩ := two_bits h1 h0 hp1
      obtain ⟨k, hk, hne⟩ := ht a b ha hb hab
      have hsp := splits_of ha hb hne
      obtain ⟨a1, a2, a3, a4⟩ := splits_parts h1 hsp
      have hle := cost_le (m := m) h1 hp1 (hlt k hk) hsp
      have key : ∀ p, (∀ i, p.testBit i = true → s.testBit i = true) → (∀ i j, p.testBit i = true → p.testBit j = true → (ones.getD k 0).testBit i = (ones.getD k 0).testBit j) → p < 2 ^ n → p ≠ 0 → cost m ones p ≤ L := by
        intro p hsub hsame hp hp0
        refine ih (l.erase k) p (by rw [List.length_erase, if_pos (by simpa using hk)]; omega) (fun x hx => hlt x (List.mem_of_mem_erase hx)) hp hp0 fun i j hi hj hij => ?_
        obtain ⟨x, hx, hxd⟩ := ht i j (hsub i hi) (hsub j hj) hij
        refine ⟨x, (List.mem_erase_of_ne ?_).2 hx, hxd⟩
        rintro rfl
        exact hxd (hsame i j hi hj)
      have c1 := key (s &&& ones.getD k 0) (fun i hi => by rw [Nat.testBit_and, Bool.and_eq_true] at hi; exact hi.1)
        (fun i j hi hj => by rw [Nat.testBit_and, Bool.and_eq_true] at hi hj; rw [hi.2, hj.2]) (and_lt hs) a1
      have c2 := key (sdiff s (ones.getD k 0)) (fun i hi => by rw [testBit_sdiff, Bool.and_eq_true] at hi; exact hi.1)
        (fun i j hi hj => by rw [testBit_sdiff, Bool.and_eq_true, Bool.not_eq_true'] at hi hj; rw [hi.2, hj.2]) (sdiff_lt hs) a2
      rw [hm k s _ _ (hlt k hk)] at hle
      omega

theorem pop_all : ∀ n : Nat, n ≤ 10 → pop (2 ^ n - 1) = n := by decide

/-- A list that tells n faults apart has n ways at least. -/
theorem divides_pow {ones l : List Nat} {n : Nat} (hd : dividesB ones l n = true) : n ≤ 2 ^ l.length := by
  have hd' := (dividesB_iff ones l n).1 hd
  have hnd : ((List.range n).map fun f => resTo ones f l).Nodup := by
    rw [List.nodup_iff_pairwise_ne, List.pairwise_map]
    refine List.Pairwise.imp_of_mem ?_ List.pairwise_lt_range
    intro a b ha hb hab
    exact (tells_iff ones l a b).1 (hd' b a (List.mem_range.1 hb) hab)
  have := List.Nodup.length_le_of_subset hnd (l₂ := List.range (2 ^ l.length)) fun x hx => by
    obtain ⟨f, _, rfl⟩ := List.mem_map.1 hx
    exact List.mem_range.2 (resTo_lt ones f l)
  simpa using this
end Go.Proofs.YtdbendnfgkonbaaDoor
