/- The frame of each law's row: what an argument that came in reads as; what the listed table lays; where the world begins. -/
import Derived.Test.YtdbendnfgkonbaaDoorBits
import Derived.ProofKit
import Derived.LaidMore
import Derived.OpenShut
import Derived.ChangeOld
import Derived.Below
import Derived.Stop.Joined
import Derived.Stop.LaidErr
import Derived.Lib.SmallJoins
import Derived.Lib.LaidTab
import Derived.Deep.Slices
namespace Go.Proofs.YtdbendnfgkonbaaDoor
open Go.ChangeShapes Go.WideShapes Go.ChangeAt Go.RowKit
set_option linter.unusedVariables false

theorem own : ownKnob Tryd.prog.godebug = none := by kernel_rfl
theorem laidOut : laidOutB Tryd.prog = true := by kernel_rfl
theorem gTab64 : Tryd.prog.globalNamed "math/bits.deBruijn64tab" = some 1 := by kernel_rfl
theorem gTab64Type : (Tryd.prog.globals[1]?).map (·.type) = some 107 := by kernel_rfl

def laidL : List (String × DataW Unit) := [("math/bits.deBruijn32tab", Rows.laid_math_bits_deBruijn32tab), ("math/bits.deBruijn64tab", Rows.laid_math_bits_deBruijn64tab)]

theorem door_met (os : Os) (args : Array Value) : laidMetH Tryd.prog laidL ((World.doorLaid Tryd.prog 400 os).forCall (fun _ _ => 0) ⟨#[], args, []⟩).memory :=
  laidMetH_of_parts3 (fuel := 8) (laidMet_of_run' 8 (by kernel_rfl) (by kernel_rfl)) (by kernel_rfl) (by kernel_rfl)

def tabI : List Int := tabL.map fun x : Nat => (x : Int)
theorem tab_of_laid {W : World} (h : laidMetH Tryd.prog laidL W) : TabAt W := by
  rw [MakeChecks.laidMetH_plain _ _ _ (by kernel_rfl)] at h
  have h2 := laidMet.tail h
  have h3 : laidMet Tryd.prog [("math/bits.deBruijn64tab", Lib.tabData .u8 tabI)] W := h2
  have hT := Lib.tabIs_of_head gTab64 gTab64Type Tryd.underlying107 Tryd.underlying5 (by kernel_rfl) (by kernel_rfl) h3
  intro i hi
  have := hT.cell gTab64 i (by simpa [tabI, tabL] using hi)
  rw [this]
  congr 2
  unfold tabI
  have hl : i < tabL.length := hi
  simp [List.getD, hl]

section
variable {H : Type} {enc : TypeId × Value → H} {W : World}

theorem ints_of {c : Value} {n : Nat} {y : DataW H × List MemPlace} (h : DataW.trod enc Tryd.prog W 0 (fun _ => true) true n 22 [c] = some y) :
    ∃ a k xs, c = .slice a xs.length k ∧ xs.length ≤ k ∧ IntsAt W a xs := by
  rcases open_ints Tryd.underlying22 Tryd.underlying3 (by kernel_rfl) h with ⟨hc, _⟩ | ⟨A, len, cap, zs, hc, _, hl, hm, hz, _, hcell, _⟩
  · cases hc
    exact ⟨none, 0, [], rfl, Nat.le_refl _, fun i v hv => by simp at hv⟩
  · cases hc
    have hz' : zs.length = cap := by simpa using hz
    have hlen : (zs.take len).length = len := by rw [List.length_take]; omega
    refine ⟨some A, cap, zs.take len, by rw [hlen], by rw [hlen]; exact hl, fun i v hv => ?_⟩
    rw [List.getElem?_map] at hv
    obtain ⟨x, hx, rfl⟩ := Option.map_eq_some_iff.1 hv
    have hi : i < len := by have := (List.getElem?_eq_some_iff.1 hx).1; omega
    obtain ⟨b, off, rfl, hj⟩ := ints_at hcell (by omega)
    refine ⟨b, off, rfl, ?_⟩
    rw [hj i (by omega)]
    rw [List.getElem?_take_of_lt hi] at hx
    simp [List.getD, hx]

theorem rows_of {c : Value} {n : Nat} {y : DataW H × List MemPlace} (h : DataW.trod enc Tryd.prog W 0 (fun _ => true) true n 23 [c] = some y) :
    ∃ a k xss, c = .slice a xss.length k ∧ xss.length ≤ k ∧ RowsAt W a xss := by
  rcases Deep.open_slice1 Tryd.underlying23 (by kernel_rfl) h with ⟨hc, _⟩ | ⟨A, len, cap, m, n', V, D, Pl, hc, _, hl, hm, hmm, _, hx⟩
  · cases hc
    exact ⟨none, 0, [], rfl, Nat.le_refl _, fun i v hv => by simp at hv⟩
  · cases hc
    have hmc : m = cap := by simpa using hmm
    obtain ⟨f, hf⟩ := Deep.choose_lt (α := List Int) (p := fun i xs => ∃ a k, V i = .slice a xs.length k ∧ xs.length ≤ k ∧ IntsAt W a xs) (fun i (hi : i < m) => by
      obtain ⟨a, k, xs, h1, h2, h3⟩ := ints_of (hx i hi).2
      exact ⟨xs, a, k, h1, h2, h3⟩)
    have hlen : ((List.range len).map f).length = len := by simp
    refine ⟨some A, cap, (List.range len).map f, by rw [hlen], by rw [hlen]; exact hl, fun i xs hxs => ?_⟩
    rw [List.getElem?_map] at hxs
    obtain ⟨j, hj, rfl⟩ := Option.map_eq_some_iff.1 hxs
    have hi : i < len := by have := (List.getElem?_eq_some_iff.1 hj).1; simpa using this
    obtain rfl : i = j := by rw [List.getElem?_range hi] at hj; exact Option.some.inj hj
    obtain ⟨h1, h2⟩ := hx i (by omega)
    obtain ⟨a, k, h3, h4, h5⟩ := hf i (by omega)
    obtain ⟨b, off, spot⟩ := A
    have hspot : spot = none := by simpa [Addr.add] using World.cell?_spot (hx 0 (by omega)).1
    subst hspot
    refine ⟨b, off, a, k, rfl, ?_, h4, h5⟩
    rw [← h3, ← add_plain]
    exact h1

set_option maxRecDepth 100000 in
theorem case_of {b0 : Nat} {v : Value} {d : DataW H} {p : List MemPlace} (hv : Value.okWide Tryd.prog W .any b0 25 v) (h : DataW.Trod enc Tryd.prog W 0 (fun _ => true) true 25 v d p) : ∃ C, CaseAt W v C := by
  obtain ⟨c0, c1, c2, y0, y1, y2, n, rfl, _, _, h0, h1, h2⟩ := Joins.open_agg3 Tryd.underlying25 (by kernel_rfl) (by kernel_rfl) hv h
  obtain ⟨aw, kw, ws, rfl, k1, i1⟩ := ints_of h0
  obtain ⟨at_, kt, ts, rfl, k2, i2⟩ := rows_of h1
  obtain ⟨ac, kc, cs, rfl, k3, i3⟩ := ints_of h2
  exact ⟨⟨ws, ts, cs⟩, aw, kw, at_, kt, ac, kc, rfl, k1, k2, k3, i1, i2, i3⟩

theorem lt_of_trod {t : TypeId} {v : Value} {d : DataW H} {p : List MemPlace} (h : DataW.Trod enc Tryd.prog W 0 (fun _ => true) true t v d p) : ∀ x ∈ p, x.block < W.heap.size := by
  obtain ⟨m, hm⟩ := h
  exact DataW.trod_lt m _ _ _ hm
end
end Go.Proofs.YtdbendnfgkonbaaDoor
