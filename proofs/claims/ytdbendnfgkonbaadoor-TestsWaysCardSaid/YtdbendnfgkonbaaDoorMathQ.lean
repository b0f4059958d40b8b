/- Plain mathematics: no correct plan costs less than the smallest mean and the smallest worst; the best plans cost just that. -/
import Derived.Test.YtdbendnfgkonbaaDoorMathP
namespace Go.Proofs.YtdbendnfgkonbaaDoor
set_option linter.unusedVariables false
set_option linter.unusedSimpArgs false

def gsum (g : Nat → Int) (s : Nat) : Nat → Int
  | 0 => 0
  | k + 1 => gsum g s k + if s.testBit k then g k else 0
theorem wTo_gsum (ws : List Int) (s : Nat) : ∀ k, wTo ws s k = gsum (fun f => ws.getD f 0) s k
  | 0 => rfl
  | k + 1 => by rw [wTo, gsum, wTo_gsum ws s k]
theorem gsum_split (g : Nat → Int) (s o : Nat) : ∀ k, gsum g s k = gsum g (sdiff s o) k + gsum g (s &&& o) k
  | 0 => rfl
  | k + 1 => by
    simp only [gsum, gsum_split g s o k, testBit_sdiff, Nat.testBit_and]
    cases s.testBit k <;> cases o.testBit k <;> simp <;> omega
theorem gsum_congr {g g' : Nat → Int} {s : Nat} (h : ∀ f, s.testBit f = true → g f = g' f) : ∀ k, gsum g s k = gsum g' s k
  | 0 => rfl
  | k + 1 => by
    rw [gsum, gsum, gsum_congr h k]
    cases hb : s.testBit k with
    | true => rw [if_pos rfl, if_pos rfl, h k hb]
    | false => rfl
theorem gsum_le {g g' : Nat → Int} {s : Nat} (h : ∀ f, s.testBit f = true → g f ≤ g' f) : ∀ k, gsum g s k ≤ gsum g' s k
  | 0 => Int.le_refl _
  | k + 1 => by
    have := gsum_le h k
    rw [gsum, gsum]
    cases hb : s.testBit k with
    | true => have := h k hb; rw [if_pos rfl, if_pos rfl]; omega
    | false => simp; omega
theorem gsum_lin (w h : Nat → Int) (c : Int) (s : Nat) : ∀ k, gsum (fun f => w f * (c + h f)) s k = c * gsum w s k + gsum (fun f => w f * h f) s k
  | 0 => by simp [gsum]
  | k + 1 => by
    rw [gsum, gsum, gsum, gsum_lin w h c s k]
    cases hb : s.testBit k with
    | false => simp
    | true =>
      simp only [if_true]
      rw [Int.mul_add (w k), Int.mul_add c, Int.mul_comm (w k) c]
      omega
theorem gsum_zero (s : Nat) : ∀ k, gsum (fun _ => 0) s k = 0
  | 0 => rfl
  | k + 1 => by rw [gsum, gsum_zero s k]; split <;> rfl
theorem gsum_nn {g : Nat → Int} {s : Nat} (h : ∀ f, s.testBit f = true → 0 ≤ g f) (k : Nat) : 0 ≤ gsum g s k := by
  have := gsum_le (g := fun _ => 0) (g' := g) h k
  rw [gsum_zero] at this
  exact this
theorem and_zero_iff {s o : Nat} (h : s &&& o = 0) {f : Nat} (hf : s.testBit f = true) : o.testBit f = false := by
  have : (s &&& o).testBit f = false := by rw [h, Nat.zero_testBit]
  rw [Nat.testBit_and, hf] at this
  simpa using this
theorem sdiff_zero_iff {s o : Nat} (h : sdiff s o = 0) {f : Nat} (hf : s.testBit f = true) : o.testBit f = true := by
  have : (sdiff s o).testBit f = false := by rw [h, Nat.zero_testBit]
  rw [testBit_sdiff, hf] at this
  simpa using this

/-- The cost of a fault from a node on. -/
def costFrom (C : CaseD) (l : List NodeD) (f i : Nat) : Int := costOf C.cs (wayFrom (C.ts.map mask) l f i).1

section
variable {C : CaseD} (hok : caseOk C = true) {l : List NodeD} (hv : ∀ i, i < l.length → NodeV C.ws.length C.ts.length l.length i (l.getD i default))
include hok hv

theorem costFrom_nn (f i : Nat) (hi : i < l.length) : 0 ≤ costFrom C l f i :=
  (costOf_bd hok _ (way_tests (ones := C.ts.map mask) hv f l.length i hi (by omega)).2).1

/-- No plan leads the faults of a set to their leaves at a smaller mean, or at a smaller worst, than its cost. -/
theorem lower (hn : C.ws.length ≤ 10) : ∀ d i s, i < l.length → l.length - i ≤ d → s < 2 ^ C.ws.length → s ≠ 0 → (∀ f, s.testBit f = true → (wayFrom (C.ts.map mask) l f i).2 = (f : Int)) →
    cost (meanM C) (C.ts.map mask) s ≤ gsum (fun f => C.ws.getD f 0 * costFrom C l f i) s C.ws.length ∧ ∃ f, s.testBit f = true ∧ cost (worstM C) (C.ts.map mask) s ≤ costFrom C l f i
  | 0, i, s, hi, hd, hs, h0, hw => by omega
  | d + 1, i, s, hi, hd, hs, h0, hw => by
    have h1 := pow_10 hn hs
    have hwn : ∀ f, 0 ≤ C.ws.getD f 0 := fun f => by
      rw [List.getD_eq_getElem?_getD]
      by_cases hf : f < C.ws.length
      · rw [List.getElem?_eq_getElem hf]; have := caseOk_w hok (List.getElem_mem hf); simp; omega
      · rw [List.getElem?_eq_none (by omega)]; simp
    have hcn := fun f => costFrom_nn hok hv f i hi
    have hsumnn : 0 ≤ gsum (fun f => C.ws.getD f 0 * costFrom C l f i) s C.ws.length := gsum_nn (fun f _ => Int.mul_nonneg (hwn f) (hcn f)) _
    by_cases hp1 : pop s = 1
    · rw [cost_one h1 hp1, cost_one h1 hp1]
      exact ⟨hsumnn, tz s, tz_bit h1 h0, hcn _⟩
    · by_cases ht : (l.getD i default).test < 0
      · exfalso
        obtain ⟨a, b, hab, ha, hb⟩ := two_bits h1 h0 hp1
        have e1 := hw a ha
        have e2 := hw b hb
        rw [way_leaf hi ht] at e1 e2
        dsimp only at e1 e2
        omega
      · obtain ⟨z, hz, hzl⟩ : ∃ z, (l.getD i default).zero.toNat = z ∧ i < z ∧ z < l.length := ⟨_, rfl, by rcases hv i hi with h | h <;> omega, by rcases hv i hi with h | h <;> omega⟩
        obtain ⟨o, ho, hol⟩ : ∃ o, (l.getD i default).one.toNat = o ∧ i < o ∧ o < l.length := ⟨_, rfl, by rcases hv i hi with h | h <;> omega, by rcases hv i hi with h | h <;> omega⟩
        obtain ⟨t, htE, htT⟩ : ∃ t, (l.getD i default).test.toNat = t ∧ t < C.ts.length := ⟨_, rfl, by rcases hv i hi with h | h <;> omega⟩
        obtain ⟨O, hO⟩ : ∃ O, (C.ts.map mask).getD t 0 = O := ⟨_, rfl⟩
        have hnode : ∀ f, wayFrom (C.ts.map mask) l f i = (t :: (wayFrom (C.ts.map mask) l f (if O.testBit f then o else z)).1, (wayFrom (C.ts.map mask) l f (if O.testBit f then o else z)).2) := fun f => by
          rw [way_node hv hi ht]
          unfold nextOf
          rw [htE, hO, hz, ho]
        have hc1 := getD_c hok htT
        have hcf : ∀ f, costFrom C l f i = C.cs.getD t 0 + costFrom C l f (if O.testBit f then o else z) := fun f => by
          unfold costFrom
          rw [hnode f]
          dsimp only
          rw [costOf_cons]
        have hoz : ∀ p, (∀ f, p.testBit f = true → s.testBit f = true ∧ O.testBit f = true) → p < 2 ^ C.ws.length → p ≠ 0 → cost (meanM C) (C.ts.map mask) p ≤ gsum (fun f => C.ws.getD f 0 * costFrom C l f o) p C.ws.length ∧ ∃ f, p.testBit f = true ∧ cost (worstM C) (C.ts.map mask) p ≤ costFrom C l f o := fun p hp hpl hp0 =>
          lower hn d o p hol.2 (by omega) hpl hp0 fun f hf => by
            have h2 := hw f (hp f hf).1
            rw [hnode f, (hp f hf).2] at h2
            exact h2
        have hzz : ∀ p, (∀ f, p.testBit f = true → s.testBit f = true ∧ O.testBit f = false) → p < 2 ^ C.ws.length → p ≠ 0 → cost (meanM C) (C.ts.map mask) p ≤ gsum (fun f => C.ws.getD f 0 * costFrom C l f z) p C.ws.length ∧ ∃ f, p.testBit f = true ∧ cost (worstM C) (C.ts.map mask) p ≤ costFrom C l f z := fun p hp hpl hp0 =>
          lower hn d z p hzl.2 (by omega) hpl hp0 fun f hf => by
            have h2 := hw f (hp f hf).1
            rw [hnode f, (hp f hf).2] at h2
            exact h2
        by_cases hand : s &&& O = 0
        · have hall : ∀ f, s.testBit f = true → O.testBit f = false := fun f hf => and_zero_iff hand hf
          obtain ⟨r1, f, r2, r3⟩ := hzz s (fun f hf => ⟨hf, hall f hf⟩) hs h0
          refine ⟨Int.le_trans r1 (gsum_le (fun f hf => ?_) _), f, r2, ?_⟩
          · rw [hcf f, hall f hf]
            exact Int.mul_le_mul_of_nonneg_left (by simp only [Bool.false_eq_true, if_false]; omega) (hwn f)
          · rw [hcf f, hall f r2]
            simp only [Bool.false_eq_true, if_false]; omega
        · by_cases hsd : sdiff s O = 0
          · have hall : ∀ f, s.testBit f = true → O.testBit f = true := fun f hf => sdiff_zero_iff hsd hf
            obtain ⟨r1, f, r2, r3⟩ := hoz s (fun f hf => ⟨hf, hall f hf⟩) hs h0
            refine ⟨Int.le_trans r1 (gsum_le (fun f hf => ?_) _), f, r2, ?_⟩
            · rw [hcf f, hall f hf]
              exact Int.mul_le_mul_of_nonneg_left (by simp only [if_true]; omega) (hwn f)
            · rw [hcf f, hall f r2]
              simp only [if_true]; omega
          · have hsp : splits ((C.ts.map mask).getD t 0) s = true := by
              rw [hO]
              unfold splits
              simp only [Bool.and_eq_true, Bool.not_eq_true', beq_eq_false_iff_ne]
              exact ⟨hand, hsd⟩
            obtain ⟨x1, fo, x2, x3⟩ := hoz (s &&& O) (fun f hf => by rw [Nat.testBit_and, Bool.and_eq_true] at hf; exact hf) (and_lt hs) hand
            obtain ⟨y1, fz, y2, y3⟩ := hzz (sdiff s O) (fun f hf => by rw [testBit_sdiff, Bool.and_eq_true, Bool.not_eq_true'] at hf; exact hf) (sdiff_lt hs) hsd
            have m1 := cost_le (m := meanM C) h1 hp1 (by simpa using htT) hsp
            have m2 := cost_le (m := worstM C) h1 hp1 (by simpa using htT) hsp
            rw [hO] at m1 m2
            unfold meanM at m1
            unfold worstM at m2
            have b2 : ∀ f, (s &&& O).testBit f = true → O.testBit f = true := fun f hf => by rw [Nat.testBit_and, Bool.and_eq_true] at hf; exact hf.2
            have b1 : ∀ f, (sdiff s O).testBit f = true → O.testBit f = false := fun f hf => by rw [testBit_sdiff, Bool.and_eq_true, Bool.not_eq_true'] at hf; exact hf.2
            constructor
            · have e1 : gsum (fun f => C.ws.getD f 0 * costFrom C l f i) s C.ws.length = C.cs.getD t 0 * wsum C.ws s + gsum (fun f => C.ws.getD f 0 * costFrom C l f z) (sdiff s O) C.ws.length + gsum (fun f => C.ws.getD f 0 * costFrom C l f o) (s &&& O) C.ws.length := by
                rw [gsum_congr (g' := fun f => C.ws.getD f 0 * (C.cs.getD t 0 + costFrom C l f (if O.testBit f then o else z))) (fun f _ => by rw [hcf f]), gsum_lin, gsum_split (fun f => C.ws.getD f 0 * costFrom C l f (if O.testBit f then o else z)) s O, wsum, wTo_gsum,
                  gsum_congr (s := sdiff s O) (g' := fun f => C.ws.getD f 0 * costFrom C l f z) (fun f hf => by rw [b1 f hf]; rfl), gsum_congr (s := s &&& O) (g' := fun f => C.ws.getD f 0 * costFrom C l f o) (fun f hf => by rw [b2 f hf]; rfl)]
                omega
              rw [e1]
              change cost _ _ s ≤ _ at m1
              unfold meanM at x1 y1
              unfold meanM
              omega
            · unfold worstM at x3 y3
              unfold worstM
              rcases Int.le_total (cost (fun k x z o => C.cs.getD k 0 + max z o) (C.ts.map mask) (sdiff s O)) (cost (fun k x z o => C.cs.getD k 0 + max z o) (C.ts.map mask) (s &&& O)) with h | h
              · refine ⟨fo, by rw [Nat.testBit_and, Bool.and_eq_true] at x2; exact x2.1, ?_⟩
                rw [hcf fo, b2 fo x2]
                simp only [if_true]
                omega
              · refine ⟨fz, by rw [testBit_sdiff, Bool.and_eq_true] at y2; exact y2.1, ?_⟩
                rw [hcf fz, b1 fz y2]
                simp only [Bool.false_eq_true, if_false]
                omega
end
end Go.Proofs.YtdbendnfgkonbaaDoor
