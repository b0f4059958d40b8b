/- Contracts: math/bits.OnesCount and TrailingZeros at sets of at most ten faults. -/
import Derived.Test.YtdbendnfgkonbaaDoorAlike
namespace Go.Proofs.YtdbendnfgkonbaaDoor
open Go.RowKit
set_option linter.unusedVariables false
set_option linter.unusedSimpArgs false

/-- How many faults a set has; its first fault. -/
def pop (s : Nat) : Nat := (List.range 10).countP s.testBit
def tz (s : Nat) : Nat := ((List.range 10).find? s.testBit).getD 0

/-- The steps of OnesCount64. -/
def oc1 (s : Nat) : Nat := (IntKind.u64.wrap (bits BinOp.and IntKind.u64 ((s : Int) / 2) 6148914691236517205 + bits BinOp.and IntKind.u64 (s : Int) 6148914691236517205)).toNat
def oc2 (s : Nat) : Nat := (IntKind.u64.wrap (bits BinOp.and IntKind.u64 ((oc1 s : Int) / 4) 3689348814741910323 + bits BinOp.and IntKind.u64 (oc1 s : Int) 3689348814741910323)).toNat
def oc3 (s : Nat) : Nat := (bits BinOp.and IntKind.u64 (IntKind.u64.wrap ((oc2 s : Int) / 16 + (oc2 s : Int))) 1085102592571150095).toNat
def oc4 (s : Nat) : Nat := (IntKind.u64.wrap ((oc3 s : Int) + (oc3 s : Int) / 256)).toNat
def oc5 (s : Nat) : Nat := (IntKind.u64.wrap ((oc4 s : Int) + (oc4 s : Int) / 65536)).toNat
def oc6 (s : Nat) : Nat := (IntKind.u64.wrap ((oc5 s : Int) + (oc5 s : Int) / 4294967296)).toNat

theorem oc1_eq : ∀ s : Nat, s < 1024 → IntKind.u64.wrap (bits BinOp.and IntKind.u64 ((s : Int) / 2) 6148914691236517205 + bits BinOp.and IntKind.u64 (s : Int) 6148914691236517205) = (oc1 s : Int) := by decide +kernel
theorem oc2_eq : ∀ s : Nat, s < 1024 → IntKind.u64.wrap (bits BinOp.and IntKind.u64 ((oc1 s : Int) / 4) 3689348814741910323 + bits BinOp.and IntKind.u64 (oc1 s : Int) 3689348814741910323) = (oc2 s : Int) := by decide +kernel
theorem oc3_eq : ∀ s : Nat, s < 1024 → bits BinOp.and IntKind.u64 (IntKind.u64.wrap ((oc2 s : Int) / 16 + (oc2 s : Int))) 1085102592571150095 = (oc3 s : Int) := by decide +kernel
theorem oc4_eq : ∀ s : Nat, s < 1024 → IntKind.u64.wrap ((oc3 s : Int) + (oc3 s : Int) / 256) = (oc4 s : Int) := by decide +kernel
theorem oc5_eq : ∀ s : Nat, s < 1024 → IntKind.u64.wrap ((oc4 s : Int) + (oc4 s : Int) / 65536) = (oc5 s : Int) := by decide +kernel
theorem oc6_eq : ∀ s : Nat, s < 1024 → IntKind.u64.wrap ((oc5 s : Int) + (oc5 s : Int) / 4294967296) = (oc6 s : Int) := by decide +kernel
theorem oc7_eq : ∀ s : Nat, s < 1024 → bits BinOp.and IntKind.i64 (IntKind.i64.wrap (oc6 s : Int)) 127 = (pop s : Int) := by decide +kernel

set_option maxRecDepth 100000 in
theorem onesCount64_any (s : Nat) (w : World) (hs : s < 1024) :
    Calls Tryd.prog 70 #[.int .u64 (s : Int)] w fun e w' => e = .returned (.int .i64 (pop s : Int)) ∧ w = w' := by
  have e1 := oc1_eq s hs
  have e2 := oc2_eq s hs
  have e3 := oc3_eq s hs
  have e4 := oc4_eq s hs
  have e5 := oc5_eq s hs
  have e6 := oc6_eq s hs
  have e7 := oc7_eq s hs
  have E7 := Lib.hid e7
  go_enter Tryd.func70, Tryd.ntmps70
  go_wp2
  go_ret
  refine ⟨ret_eq ?_, rfl⟩
  rw [← E7.out, IntKind.wrap_i64]
  unfold wrap64
  rfl

/-- math/bits.deBruijn64tab lies in its place. -/
def tabL : List Nat := [0, 1, 56, 2, 57, 49, 28, 3, 61, 58, 42, 50, 38, 29, 17, 4, 62, 47, 59, 36, 45, 43, 51, 22, 53, 39, 33, 30, 24, 18, 12, 5, 63, 55, 48, 27, 60, 41, 37, 16, 46, 35, 44, 21, 52, 32, 23, 11, 54, 26, 40, 15, 34, 20, 31, 10, 25, 14, 19, 9, 13, 8, 7, 6]
def TabAt (w : World) : Prop := ∀ i, i < 64 → w.cell? ⟨1, i, none⟩ = some (.int .u8 (tabL.getD i 0 : Int))
theorem TabAt.ext {w w' : World} (h : TabAt w) (hb : Ext w w') : TabAt w' := fun i hi => cell_later hb (h i hi)

def dbLow (s : Nat) : Nat := (bits BinOp.and IntKind.u64 (s : Int) (IntKind.u64.wrap (-(s : Int)))).toNat
def dbMul (s : Nat) : Nat := (IntKind.u64.wrap ((dbLow s : Int) * 285870213051353865)).toNat
theorem dbLow_eq : ∀ s : Nat, s < 1024 → bits BinOp.and IntKind.u64 (s : Int) (IntKind.u64.wrap (-(s : Int))) = (dbLow s : Int) := by decide +kernel
theorem dbMul_eq : ∀ s : Nat, s < 1024 → IntKind.u64.wrap ((dbLow s : Int) * 285870213051353865) = (dbMul s : Int) := by decide +kernel
theorem dbTab_eq : ∀ s : Nat, s < 1024 → 0 < s → dbMul s / 288230376151711744 < 64 ∧ tabL.getD (dbMul s / 288230376151711744) 0 = tz s := by decide +kernel
theorem db_all (s : Nat) (hs : s < 1024) (h0 : 0 < s) : ∃ l m d : Nat, bits BinOp.and IntKind.u64 (s : Int) (IntKind.u64.wrap (-(s : Int))) = (l : Int) ∧ IntKind.u64.wrap ((l : Int) * 285870213051353865) = (m : Int) ∧ (m : Int) / 288230376151711744 = (d : Int) ∧ d < 64 ∧ tabL.getD d 0 = tz s :=
  ⟨dbLow s, dbMul s, dbMul s / 288230376151711744, dbLow_eq s hs, dbMul_eq s hs, by simp, (dbTab_eq s hs h0).1, (dbTab_eq s hs h0).2⟩
theorem tz_lt : ∀ s : Nat, s < 1024 → tz s < 10 := by decide +kernel

set_option maxRecDepth 100000 in
theorem tz64_any (s : Nat) (w : World) (hs : s < 1024) (h0 : 0 < s) (hT : TabAt w) :
    Calls Tryd.prog 72 #[.int .u64 (s : Int)] w fun e w' => e = .returned (.int .i64 (tz s : Int)) ∧ w = w' := by
  obtain ⟨l, m, d, e1, e2, e3, h64, e4⟩ := db_all s hs h0
  have hc := hT _ h64
  rw [e4] at hc
  have hz := tz_lt s hs
  have hne : ((s : Int) == 0) = false := by rw [beq_eq_false_iff_ne]; omega
  clear hs h0 e4
  go_enter Tryd.func72, Tryd.ntmps72
  go_wp2_with fail
  go_ret
  exact ⟨rfl, rfl⟩

theorem onesCount_any (s : Nat) (w : World) (hs : s < 1024) :
    Calls Tryd.prog 61 #[.int .u64 (s : Int)] w fun e w' => e = .returned (.int .i64 (pop s : Int)) ∧ w = w' := by
  go_enter Tryd.func61, Tryd.ntmps61
  go_wp2_with (go_at_call 70; refine (onesCount64_any _ _ hs).mono ?_; rintro e w' ⟨rfl, rfl⟩)
  go_ret
  exact ⟨rfl, rfl⟩
theorem trailing_any (s : Nat) (w : World) (hs : s < 1024) (h0 : 0 < s) (hT : TabAt w) :
    Calls Tryd.prog 62 #[.int .u64 (s : Int)] w fun e w' => e = .returned (.int .i64 (tz s : Int)) ∧ w = w' := by
  go_enter Tryd.func62, Tryd.ntmps62
  go_wp2_with (go_at_call 72; refine (tz64_any _ _ hs h0 hT).mono ?_; rintro e w' ⟨rfl, rfl⟩)
  go_ret
  exact ⟨rfl, rfl⟩
end Go.Proofs.YtdbendnfgkonbaaDoor
