/- Contracts: without, nodes. -/
import Derived.Test.YtdbendnfgkonbaaDoorLists
namespace Go.Proofs.YtdbendnfgkonbaaDoor
open Go.RowKit
set_option linter.unusedVariables false
set_option linter.unusedSimpArgs false

theorem ints_drop {w : World} {b off : Nat} {xs : List Int} (h : IntsAt w (some ⟨b, off, none⟩) xs) (n : Nat) : CellsAt w (some ⟨b, off + n, none⟩) (intVals (xs.drop n)) := by
  intro i v hv
  unfold intVals at hv
  rw [List.getElem?_map, List.getElem?_drop] at hv
  obtain ⟨b', o', he, hc⟩ := h (n + i) v (by rw [List.getElem?_map]; exact hv)
  cases he
  exact ⟨b, off + n, rfl, by rw [Nat.add_assoc]; exact hc⟩

set_option maxRecDepth 20000 in
theorem without_any (a : Option Addr) (n k i : Nat) (xs : List Int) (w : World) (hn : n = xs.length) (hx : IntsAt w a xs) (hk : n ≤ k) (hi : i < n) (hb : n ≤ 1000) :
    Calls Tryd.prog 28 #[.slice a n k, .int .i64 (i : Int)] w fun e w' => ∃ a' k', e = .returned (.slice a' (n - 1) k') ∧ w'.ownsRow w.heap.size 3 1 (.slice a' (n - 1) k') (n - 1) (intVals (xs.eraseIdx i)) ∧ Ext w w' := by
  subst hn
  obtain ⟨b, off, x, rfl, _, _⟩ := hx.get hi
  obtain ⟨i1, hi1, hz10, hz11, hz12⟩ := info_parts info_int
  have hc := Lib.hid (ints_take hx i)
  have hd := Lib.hid (ints_drop hx (i + 1))
  have hl : (intVals (xs.take i)).length = i * 1 := by unfold intVals; rw [List.length_map, List.length_take]; omega
  have hl2 : (intVals (xs.drop (i + 1))).length = (xs.length - (i + 1)) * 1 := by unfold intVals; rw [List.length_map, List.length_drop]; omega
  have HL := Lib.hid hl
  have HL2 := Lib.hid hl2
  have herase : intVals (xs.take i) ++ intVals (xs.drop (i + 1)) = intVals (xs.eraseIdx i) := by
    unfold intVals
    rw [← List.map_append, List.eraseIdx_eq_take_drop_succ]
  have HER := Lib.hid herase
  have hx' := Lib.hid hx
  obtain ⟨n, hnE⟩ : ∃ n, xs.length = n := ⟨_, rfl⟩
  rw [hnE] at hi hk hb HL2 ⊢
  have HN := Lib.hid hnE
  obtain ⟨j, hj⟩ : ∃ j, n = i + 1 + j := ⟨n - (i + 1), by omega⟩
  have hj2 : n - (i + 1) = j := by omega
  have hj3 : n - 1 = i + j := by omega
  rw [hj2] at HL2
  rw [hj3]
  subst hj
  clear hl hl2 herase hx hnE hj2 hj3
  have i0 : (0 : Int) ≤ (i : Int) := by omega
  have i1' : (i : Int) ≤ (k : Int) := by omega
  have hlen0 : xs.drop (i + 1 + 0) = xs.drop (i + 1) := rfl
  by_cases hcap : k = i + 1
  · obtain rfl : j = 0 := by omega
    subst hcap
    have hd0 : CellsAt w (some ⟨b, off, none⟩) [] := fun i v hv => by simp at hv
    have hd1 := Lib.hid hd0
    have hnil : intVals (xs.drop (i + 1)) = [] := List.eq_nil_of_length_eq_zero (by rw [HL2.out])
    have HNIL := Lib.hid hnil
    clear hd0 hnil hlen0
    go_enter Tryd.func28, Tryd.ntmps28
    go_wp2_with (at_builtin; refine wpList_append_came rfl _ _ 22 rfl w.heap.size 3 i1 (.int .i64 0) 1 8 Tryd.underlying22 hi1 hz10 hz11 hz12 rfl (by decide) (.slice none 0 0) 0 [] rfl (World.ownsRow_nil _ _ _ _) (some ⟨b, off, none⟩) i (i + 1) (intVals (xs.take i)) rfl HL.out (fun h => by cases h) hc.out (intVals_one _) (by unfold maxLen; omega) (by omega) (Nat.le_refl _) ?_)
    intro v w4 hown hgrow
    have hx4 := Lib.hid ((Ext.refl w).grown hgrow (Nat.le_refl _) (fun k hk => by simp [Value.ownBlock] at hk))
    have hown1 : w4.ownsRow w.heap.size 3 1 v i (intVals (xs.take i)) := by simpa using hown
    have HOWN := Lib.hid hown1
    have hd4 := Lib.hid (CellsAt.ext hd1.out hx4.out)
    have hsz := hx4.out.size
    clear hown hgrow hown1
    go_wp2_with (at_builtin; refine wpList_append_came rfl _ _ 22 rfl w.heap.size 3 i1 (.int .i64 0) 1 8 Tryd.underlying22 hi1 hz10 hz11 hz12 rfl (by decide) v i (intVals (xs.take i)) rfl HOWN.out (some ⟨b, off, none⟩) 0 0 [] rfl rfl (fun h => by cases h) hd4.out (by simp) (by unfold maxLen; omega) (by omega) hsz ?_)
    intro v2 w5 hown hgrow
    have hx5 := Lib.hid (hx4.out.grown hgrow hx4.out.size (fun k hk => by have := (HOWN.out.lt k hk).1; omega))
    obtain ⟨a', k', rfl, _, _⟩ := cells_of_own hown
    have HOWN2 := Lib.hid hown
    clear hown hgrow
    go_wp2_with fail
    go_ret
    refine ⟨a', k', rfl, ?_, hx5.out⟩
    rw [← HER.out, HNIL.out]
    simpa using HOWN2.out
  · go_enter Tryd.func28, Tryd.ntmps28
    go_wp2_with (at_builtin; refine wpList_append_came rfl _ _ 22 rfl w.heap.size 3 i1 (.int .i64 0) 1 8 Tryd.underlying22 hi1 hz10 hz11 hz12 rfl (by decide) (.slice none 0 0) 0 [] rfl (World.ownsRow_nil _ _ _ _) (some ⟨b, off, none⟩) i k (intVals (xs.take i)) rfl HL.out (fun h => by cases h) hc.out (intVals_one _) (by unfold maxLen; omega) (by omega) (Nat.le_refl _) ?_)
    intro v w4 hown hgrow
    have hx4 := Lib.hid ((Ext.refl w).grown hgrow (Nat.le_refl _) (fun k hk => by simp [Value.ownBlock] at hk))
    have hown1 : w4.ownsRow w.heap.size 3 1 v i (intVals (xs.take i)) := by simpa using hown
    have HOWN := Lib.hid hown1
    have hd4 := Lib.hid (CellsAt.ext hd.out hx4.out)
    have hsz := hx4.out.size
    clear hown hgrow hown1
    go_wp2_with (at_builtin; refine wpList_append_came rfl _ _ 22 rfl w.heap.size 3 i1 (.int .i64 0) 1 8 Tryd.underlying22 hi1 hz10 hz11 hz12 rfl (by decide) v i (intVals (xs.take i)) rfl HOWN.out (some ⟨b, off + (i + 1), none⟩) j (k - (i + 1)) (intVals (xs.drop (i + 1))) rfl HL2.out (fun h => by cases h) hd4.out (intVals_one _) (by unfold maxLen; omega) (by omega) hsz ?_)
    intro v2 w5 hown hgrow
    have hx5 := Lib.hid (hx4.out.grown hgrow hx4.out.size (fun k hk => by have := (HOWN.out.lt k hk).1; omega))
    obtain ⟨a', k', rfl, _, _⟩ := cells_of_own hown
    have HOWN2 := Lib.hid hown
    clear hown hgrow
    go_wp2_with fail
    go_ret
    refine ⟨a', k', rfl, ?_, hx5.out⟩
    rw [← HER.out]
    exact HOWN2.out
end Go.Proofs.YtdbendnfgkonbaaDoor
