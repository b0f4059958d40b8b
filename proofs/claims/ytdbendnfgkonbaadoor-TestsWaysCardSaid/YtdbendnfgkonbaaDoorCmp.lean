/- Contracts: cmp.isNaN, cmp.Compare, cmp.Or, slices.Compare at ints; divides. -/
import Derived.Test.YtdbendnfgkonbaaDoorAlike
import Derived.Test.YtdbendnfgkonbaaDoorIntMaps
namespace Go.Proofs.YtdbendnfgkonbaaDoor
open Go.RowKit
set_option linter.unusedVariables false
set_option linter.unusedSimpArgs false

def cmpI (a b : Int) : Int := if a < b then -1 else if b < a then 1 else 0

theorem compare_any (a b : Int) (w : World) : Calls Tryd.prog 40 #[.int .i64 a, .int .i64 b] w fun e w' => e = .returned (.int .i64 (cmpI a b)) ∧ w = w' := by
  by_cases h1 : a < b
  · go_enter Tryd.func40, Tryd.ntmps40
    go_wp2
    go_ret
    exact ⟨ret_eq (by simp [cmpI, h1]), rfl⟩
  · by_cases h2 : b < a
    · go_enter Tryd.func40, Tryd.ntmps40
      go_wp2
      go_ret
      exact ⟨ret_eq (by simp [cmpI, h1, h2]), rfl⟩
    · go_enter Tryd.func40, Tryd.ntmps40
      go_wp2
      go_ret
      exact ⟨ret_eq (by unfold cmpI; rw [if_neg (by omega), if_neg (by omega)]; rfl), rfl⟩

/-- The first of two numbers that is not 0. -/
def or2 (a b : Int) : Int := if a = 0 then b else a

theorem or2_any (a b : Int) (A : Addr) (k : Nat) (w : World) (c0 : w.cell? ⟨A.block, A.off, none⟩ = some (.int .i64 a)) (c1 : w.cell? ⟨A.block, A.off + 1, none⟩ = some (.int .i64 b)) :
    Calls Tryd.prog 39 #[.slice (some ⟨A.block, A.off, none⟩) 2 k] w fun e w' => e = .returned (.int .i64 (or2 a b)) ∧ w = w' := by
  by_cases ha : a = 0
  · subst ha
    by_cases hb : b = 0
    · subst hb
      go_enter Tryd.func39, Tryd.ntmps39
      go_wp2
      refine wp_loop_rounds 3 ?_
      rw [rounds_succ]; go_wp2
      rw [rounds_succ]; go_wp2
      rw [rounds_succ]; go_wp2
      go_ret
      exact ⟨rfl, rfl⟩
    · have hb' : (b != 0) = true := by simpa using hb
      have HB := Lib.hid hb
      clear hb
      go_enter Tryd.func39, Tryd.ntmps39
      go_wp2
      refine wp_loop_rounds 3 ?_
      rw [rounds_succ]; go_wp2
      rw [rounds_succ]; go_wp2
      go_ret
      exact ⟨rfl, rfl⟩
  · have ha' : (a != 0) = true := by simpa using ha
    have HA := Lib.hid ha
    clear ha
    go_enter Tryd.func39, Tryd.ntmps39
    go_wp2
    refine wp_loop_rounds 3 ?_
    rw [rounds_succ]; go_wp2
    go_ret
    exact ⟨ret_eq (by rw [or2, if_neg HA.out]; rfl), rfl⟩

/-- slices.Compare. -/
def cmpL : List Int → List Int → Int
  | [], [] => 0
  | [], _ :: _ => -1
  | _ :: _, [] => 1
  | x :: r, y :: s => if cmpI x y = 0 then cmpL r s else cmpI x y

theorem compareL_any (a b : Option Addr) (ka kb : Nat) (xs ys : List Int) (w : World) (hx : IntsAt w a xs) (hy : IntsAt w b ys) (lx : xs.length ≤ 1000000) (ly : ys.length ≤ 1000000) :
    Calls Tryd.prog 41 #[.slice a xs.length ka, .slice b ys.length kb] w fun e w' => e = .returned (.int .i64 (cmpL xs ys)) ∧ w = w' := by
  go_enter Tryd.func41, Tryd.ntmps41
  go_wp2_with fail
  go_loop [11] (fun i => ∃ j : Nat, j ≤ xs.length ∧ j ≤ ys.length ∧ i = .int .i64 j ∧ cmpL xs ys = cmpL (xs.drop j) (ys.drop j)) (fun i => xs.length - (intOf i).toNat)
  case atStart => exact ⟨0, Nat.zero_le _, Nat.zero_le _, rfl, rfl⟩
  case round =>
    obtain ⟨j, hj, hj2, rfl, heq⟩ := hrel
    have HEQ := Lib.hid heq
    clear heq
    by_cases hlt : j < xs.length
    · obtain ⟨bx, ox, x, rfl, cx, hxj⟩ := hx.get hlt
      by_cases hlt2 : j < ys.length
      · obtain ⟨by_, oy, y, rfl, cy, hyj⟩ := hy.get hlt2
        have hd : cmpL (xs.drop j) (ys.drop j) = if cmpI x y = 0 then cmpL (xs.drop (j + 1)) (ys.drop (j + 1)) else cmpI x y := by
          obtain ⟨h1, rfl⟩ := List.getElem?_eq_some_iff.1 hxj.out
          obtain ⟨h2, rfl⟩ := List.getElem?_eq_some_iff.1 hyj.out
          rw [List.drop_eq_getElem_cons h1, List.drop_eq_getElem_cons h2]
          rfl
        have HD := Lib.hid hd
        clear hd
        obtain ⟨c, hc⟩ : ∃ c, cmpI x y = c := ⟨_, rfl⟩
        by_cases h0 : c = 0
        · subst h0
          have HC := Lib.hid hc
          go_wp2_with (go_at_call 40; refine (compare_any _ _ _).mono ?_; rintro e w' ⟨rfl, rfl⟩)
          go_round
          case rel => exact ⟨j + 1, by omega, by omega, by go_num, by rw [HEQ.out, HD.out, if_pos HC.out]⟩
          case measure => simp [intOf]; omega
        · have HC := Lib.hid hc
          have h0' : (c != 0) = true := by simpa using h0
          have H0 := Lib.hid h0
          clear h0
          go_wp2_with (go_at_call 40; refine (compare_any _ _ _).mono ?_; rintro e w' ⟨rfl, rfl⟩)
          go_ret
          exact ⟨ret_eq (by rw [HEQ.out, HD.out, HC.out, if_neg H0.out]; rfl), rfl⟩
      · go_wp2_with fail
        go_ret
        have h1 : xs.drop j = x :: xs.drop (j + 1) := by
          obtain ⟨h1, rfl⟩ := List.getElem?_eq_some_iff.1 hxj.out
          exact List.drop_eq_getElem_cons h1
        have h2 : ys.drop j = [] := List.drop_eq_nil_of_le (by omega)
        exact ⟨ret_eq (by rw [HEQ.out, h1, h2]; rfl), rfl⟩
    · have h1 : xs.drop j = [] := List.drop_eq_nil_of_le (by omega)
      have H1 := Lib.hid h1
      clear h1
      by_cases hlt2 : xs.length < ys.length
      · go_wp2_with fail
        go_ret
        have h2 : ∃ y r, ys.drop j = y :: r := ⟨_, _, List.drop_eq_getElem_cons (by omega)⟩
        obtain ⟨y, r, h2⟩ := h2
        exact ⟨ret_eq (by rw [HEQ.out, H1.out, h2]; rfl), rfl⟩
      · go_wp2_with fail
        go_ret
        have h2 : ys.drop j = [] := List.drop_eq_nil_of_le (by omega)
        exact ⟨ret_eq (by rw [HEQ.out, H1.out, h2]; rfl), rfl⟩
end Go.Proofs.YtdbendnfgkonbaaDoor
