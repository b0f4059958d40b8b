/- Contracts: mod, at, ints, and what a case that the statement itself makes owns. -/
import Derived.Test.YtdbendnfgkonbaaDoorBits
import Derived.OwnWalk
namespace Go.Proofs.YtdbendnfgkonbaaDoor
open Go.RowKit
set_option linter.unusedVariables false
set_option linter.unusedSimpArgs false

def modI (x n : Int) : Int := (x % 18446744073709551616) % n

theorem modI_bd (x : Int) {n : Int} (hn : 0 < n) : 0 ≤ modI x n ∧ modI x n < n := ⟨Int.emod_nonneg _ (by omega), Int.emod_lt_of_pos _ hn⟩

theorem mod_any (x n : Int) (w : World) (h0 : 0 < n) (h1 : n ≤ 1000) :
    Calls Tryd.prog 25 #[.int .i64 x, .int .i64 n] w fun e w' => e = .returned (.int .i64 (modI x n)) ∧ w = w' := by
  have hb := modI_bd x h0
  go_enter Tryd.func25, Tryd.ntmps25
  go_wp2_with fail
  go_ret
  refine ⟨ret_eq ?_, rfl⟩
  show Value.int .i64 (wrap64 ((IntKind.u64.wrap x).tmod n)) = _
  have hw : IntKind.u64.wrap x = x % 18446744073709551616 := by simp [IntKind.wrap, IntKind.bits, IntKind.signed]
  have he : (IntKind.u64.wrap x).tmod n = modI x n := by
    rw [hw, Int.tmod_eq_emod_of_nonneg (Int.emod_nonneg _ (by omega))]
    rfl
  rw [he]
  congr 1
  exact IntWalk.wrap64_in (modI x n) (by omega)

theorem at_any (a : Option Addr) (k : Nat) (xs : List Int) (i : Nat) (w : World) (hx : IntsAt w a xs) :
    Calls Tryd.prog 26 #[.slice a xs.length k, .int .i64 (i : Int)] w fun e w' => e = .returned (.int .i64 (xs.getD i 0)) ∧ w = w' := by
  by_cases hi : i < xs.length
  · obtain ⟨b, off, x, rfl, cx, hxi⟩ := hx.get hi
    have hg : xs.getD i 0 = x := by simp only [List.getD, hxi.out]; rfl
    rw [hg]
    have HG := Lib.hid hg
    clear hg
    go_enter Tryd.func26, Tryd.ntmps26
    go_wp2_with fail
    go_ret
    exact ⟨ret_eq rfl, rfl⟩
  · have hg : xs.getD i 0 = 0 := by rw [List.getD_eq_getElem?_getD, List.getElem?_eq_none (by omega)]; rfl
    rw [hg]
    have HG := Lib.hid hg
    clear hg
    go_enter Tryd.func26, Tryd.ntmps26
    go_wp2_with fail
    go_ret
    exact ⟨ret_eq rfl, rfl⟩

def eqTo (a b : List Int) : Nat → Bool
  | 0 => true
  | k + 1 => eqTo a b k && (a.getD k 0 == b.getD k 0)
theorem eqTo_iff (a b : List Int) : ∀ k, eqTo a b k = true ↔ ∀ i, i < k → a.getD i 0 = b.getD i 0
  | 0 => by simp [eqTo]
  | k + 1 => by
    rw [eqTo, Bool.and_eq_true, eqTo_iff a b k, beq_iff_eq]
    constructor
    · rintro ⟨h1, h2⟩ i hi
      rcases Nat.lt_or_eq_of_le (Nat.le_of_lt_succ hi) with h | rfl
      · exact h1 i h
      · exact h2
    · intro h
      exact ⟨fun i hi => h i (by omega), h k (by omega)⟩
theorem eq_of_getD {a b : List Int} (hl : a.length = b.length) (h : ∀ i, i < a.length → a.getD i 0 = b.getD i 0) : a = b := by
  refine List.ext_getElem hl fun i h1 h2 => ?_
  have := h i h1
  simpa [List.getD, h1, h2] using this

/-- ints compares. -/
theorem ints_any (a b : Option Addr) (ka kb : Nat) (xs ys : List Int) (w : World) (hx : IntsAt w a xs) (hy : IntsAt w b ys) (hl : xs.length ≤ 9223372036854775806) :
    Calls Tryd.prog 19 #[.slice a xs.length ka, .slice b ys.length kb] w fun e w' => e = .returned (.bool (decide (xs = ys))) ∧ Ext w w' := by
  by_cases hlen : xs.length = ys.length
  · have hd : ∀ k, k = xs.length → eqTo xs ys k = decide (xs = ys) := by
      intro k hk
      subst hk
      by_cases he : xs = ys
      · subst he
        rw [decide_eq_true rfl]
        exact (eqTo_iff _ _ _).2 fun _ _ => rfl
      · rw [decide_eq_false he]
        cases h : eqTo xs ys xs.length with
        | false => rfl
        | true => exact absurd (eq_of_getD hlen ((eqTo_iff _ _ _).1 h)) he
    have HD := Lib.hid hd
    have HLEN := Lib.hid hlen
    clear hd
    have hlenI : (xs.length : Int) = (ys.length : Int) := by omega
    obtain ⟨n, hn⟩ : ∃ n, ys.length = n := ⟨_, rfl⟩
    rw [hn] at hlen hlenI HLEN ⊢
    have HN := Lib.hid hn
    clear hn
    rw [hlen]
    obtain ⟨N, hN⟩ : ∃ N, N = n := ⟨_, rfl⟩
    clear hlenI
    go_enter Tryd.func19, Tryd.ntmps19
    go_wp2_with fail
    go_loopw [5] (fun i wr => ∃ k : Nat, k ≤ n ∧ i = .int .i64 k ∧ eqTo xs ys k = true ∧ Ext w wr) (fun i _ => n - (intOf i).toNat)
    case atStart => exact ⟨0, Nat.zero_le _, rfl, rfl, Ext.refl _⟩
    case round =>
      obtain ⟨k, hk, rfl, he, hx'⟩ := hrel
      have HE := Lib.hid he
      clear he
      by_cases hlt : k < n
      · obtain ⟨b1, o1, x, rfl, cx, hxk⟩ := (hx.ext hx').get (i := k) (by omega)
        obtain ⟨b2, o2, y, rfl, cy, hyk⟩ := (hy.ext hx').get (i := k) (by rw [HN.out]; omega)
        have gx : xs.getD k 0 = x := by simp only [List.getD, hxk.out]; rfl
        have gy : ys.getD k 0 = y := by simp only [List.getD, hyk.out]; rfl
        have hst : eqTo xs ys (k + 1) = (x == y) := by rw [eqTo, HE.out, gx, gy]; rfl
        have HST := Lib.hid hst
        have HGX := Lib.hid gx
        have HGY := Lib.hid gy
        clear hst gx gy
        have i0 : (0 : Int) ≤ (k : Int) := by omega
        have i1 : (k : Int) < (n : Int) := by omega
        by_cases hxy : x = y
        · subst hxy
          go_wp2_with fail
          go_quiet (fail)
          go_wp2_with fail
          go_roundw
          case rel => exact ⟨k + 1, by omega, by go_num, by rw [HST.out]; simp, hx'.trans (Ext.drewN _ _)⟩
          case measure => simp [intOf]; omega
        · have hne : decide (xs = ys) = false := decide_eq_false fun e => by
            subst e
            exact hxy (HGX.out.symm.trans HGY.out)
          have HNE := Lib.hid hne
          clear hne
          go_wp2_with fail
          go_quiet (fail)
          go_wp2_with fail
          go_ret
          exact ⟨ret_eq (by rw [HNE.out]; rfl), hx'.trans (Ext.drewN _ _)⟩
      · obtain rfl : k = n := by omega
        have hd := HD.out k HLEN.out.symm
        rw [HE.out] at hd
        have HDD := Lib.hid hd
        clear hd
        go_wp2_with fail
        go_ret
        exact ⟨ret_eq (by rw [← HDD.out]; rfl), hx'⟩
  · have hne : decide (xs = ys) = false := decide_eq_false fun e => hlen (by rw [e])
    rw [hne]
    have hlenI : (xs.length : Int) ≠ (ys.length : Int) := by omega
    go_enter Tryd.func19, Tryd.ntmps19
    go_wp2_with fail
    go_ret
    exact ⟨ret_eq rfl, Ext.refl _⟩
end Go.Proofs.YtdbendnfgkonbaaDoor
