/- Contracts of small functions: within, has, mod, at; slices.IndexFunc and ContainsFunc over a closure that is given by a contract. -/
import Derived.Test.YtdbendnfgkonbaaDoorBase
namespace Go.Proofs.YtdbendnfgkonbaaDoor
open Go.RowKit

def inR (n lo hi : Int) : Bool := decide (lo ≤ n ∧ n ≤ hi)
theorem inR_iff (n lo hi : Int) : inR n lo hi = true ↔ lo ≤ n ∧ n ≤ hi := by simp [inR]

theorem within_any (n lo hi : Int) (w : World) :
    Calls Tryd.prog 49 #[.int .i64 n, .int .i64 lo, .int .i64 hi] w fun e w' => e = .returned (.bool (inR n lo hi)) ∧ w = w' := by
  by_cases h1 : lo ≤ n
  · go_enter Tryd.func49, Tryd.ntmps49
    go_wp2
    go_ret
    exact ⟨ret_eq (by simp [inR, h1]), rfl⟩
  · have h1' : n < lo := by omega
    go_enter Tryd.func49, Tryd.ntmps49
    go_wp2
    go_ret
    exact ⟨ret_eq (by simp [inR]; omega), rfl⟩

/-- The position of the first element that meets p, or -1. -/
def findI (p : Int → Bool) : List Int → Nat → Int
  | [], _ => -1
  | x :: r, k => if p x then k else findI p r (k + 1)

theorem findI_drop (p : Int → Bool) (xs : List Int) (k : Nat) (x : Int) (h : xs[k]? = some x) : findI p (xs.drop k) k = if p x then (k : Int) else findI p (xs.drop (k + 1)) (k + 1) := by
  obtain ⟨hk, rfl⟩ := List.getElem?_eq_some_iff.1 h
  rw [List.drop_eq_getElem_cons hk]
  rfl

theorem indexFunc_any (f : Nat) (cap : Array Value) (p : Int → Bool) (a : Option Addr) (k : Nat) (xs : List Int) (w : World) (hx : IntsAt w a xs) (hk : xs.length ≤ 9223372036854775807)
    (hf : ∀ args w', (callFunc f args).run Tryd.prog w' = .ok (.enter f args) w')
    (hp : ∀ x w', x ∈ xs → Ext w w' → Calls Tryd.prog f (#[.int .i64 x] ++ cap) w' fun e w'' => e = .returned (.bool (p x)) ∧ Ext w' w'') :
    Calls Tryd.prog 67 #[.slice a xs.length k, .func (.func f) #[] cap] w fun e w' => e = .returned (.int .i64 (findI p xs 0)) ∧ Ext w w' := by
  have HP := Lib.hid hp
  clear hp
  go_enter Tryd.func67, Tryd.ntmps67
  go_wp2
  go_loopw [8] (fun i wr => ∃ j : Nat, j ≤ xs.length ∧ i = .int .i64 j ∧ findI p xs 0 = findI p (xs.drop j) j ∧ Ext w wr) (fun i _ => xs.length - (intOf i).toNat)
  case atStart => exact ⟨0, Nat.zero_le _, rfl, rfl, Ext.refl _⟩
  case round =>
    obtain ⟨j, hj, rfl, hf, hb⟩ := hrel
    have HF := Lib.hid hf
    clear hf
    by_cases hlt : j < xs.length
    · obtain ⟨b, off, x, rfl, hc, hxj⟩ := (hx.ext hb).get hlt
      have hm : x ∈ xs := List.mem_of_getElem? hxj.out
      go_wp2_with fail
      refine (HP.out x _ hm hb).mono ?_
      rintro e w2 ⟨rfl, hb2⟩
      have hs := findI_drop p xs j x hxj.out
      have HS := Lib.hid hs
      clear hs
      cases hpx : p x with
      | true =>
        go_wp2_with fail
        go_ret
        exact ⟨ret_eq (by rw [HF.out, HS.out, hpx]; rfl), hb.trans hb2⟩
      | false =>
        go_wp2_with fail
        go_roundw
        case rel => exact ⟨j + 1, by omega, by go_num, by rw [HF.out, HS.out, hpx]; simp, hb.trans hb2⟩
        case measure => simp [intOf]; omega
    · go_wp2_with fail
      go_ret
      have he : xs.drop j = [] := List.drop_eq_nil_of_le (by omega)
      exact ⟨ret_eq (by rw [HF.out, he]; rfl), hb⟩

end Go.Proofs.YtdbendnfgkonbaaDoor
