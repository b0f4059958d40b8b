/- For every case, list and pair of numbers that are given, the statement TestsMore answers true and leaves its arguments as they were: a further test makes neither the smallest mean nor the smallest worst greater, and neither does removing a fault; multiplying all costs multiplies both. No conditions beyond the given row's own (the two tables of math/bits as the program's text lays them, which the card ties). -/
import Derived.Test.YtdbendnfgkonbaaDoorCards
import Derived.Test.YtdbendnfgkonbaaDoorTie
import Derived.Test.YtdbendnfgkonbaaDoorFrame
import Derived.Test.YtdbendnfgkonbaaDoorMoreW
import Derived.SevenTiedAt
namespace Go.Proofs.YtdbendnfgkonbaaDoor
open Go.ChangeShapes Go.WideShapes Go.ChangeAt Go.RowKit
set_option linter.unusedVariables false

set_option maxRecDepth 100000 in
theorem pair_of {H : Type} {enc : TypeId × Value → H} {W : World} {b0 : Nat} {v : Value} {d : DataW H} {p : List MemPlace} (hv : Value.okWide Tryd.prog W .any b0 39 v) (h : DataW.Trod enc Tryd.prog W 0 (fun _ => true) true 39 v d p) : ∃ x y, v = .agg #[.int .i64 x, .int .i64 y] := by
  have hu : Tryd.prog.underlying 39 = some (.array 2 3) := Tryd.underlying39
  unfold Value.okWide at hv
  rw [hu] at hv
  obtain ⟨cs, rfl, hsz, _⟩ := hv
  have hc2 : Tryd.prog.cellsOf 39 = 2 := by kernel_rfl
  have hc1 : Tryd.prog.cellsOf 3 = 1 := by kernel_rfl
  rw [hc2] at hsz
  obtain ⟨c0, c1, rfl⟩ : ∃ a b, cs = #[a, b] := by
    match cs, hsz with
    | ⟨[a, b]⟩, _ => exact ⟨a, b, rfl⟩
  obtain ⟨fuel, hf⟩ := h
  obtain ⟨xs, m, _, _, _, hn, hel⟩ := DataW.trod_array hu hf
  have h0 := hel 0 (by decide)
  have h1 := hel 1 (by decide)
  rw [hc1] at h0 h1
  match xs, hn, h0, h1 with
  | [x0, x1], _, h0, h1 =>
    obtain ⟨a, e0, _, _⟩ := DataW.trod_int Tryd.underlying3 (show DataW.trod enc Tryd.prog W 0 (fun _ => true) true m 3 [c0] = some x0 from h0)
    obtain ⟨b, e1, _, _⟩ := DataW.trod_int Tryd.underlying3 (show DataW.trod enc Tryd.prog W 0 (fun _ => true) true m 3 [c1] = some x1 from h1)
    simp at e0 e1
    subst e0 e1
    exact ⟨a, b, rfl⟩

set_option maxRecDepth 100000 in
theorem more_lifted (os : Os) (started : os.Started) (H : Type) (enc : TypeId × Value → H) :
    ReturnsInHanded {} Tryd.checked os 5 .any (fun w args => (Rows.testsMoreSpec.pre enc Tryd.prog Tryd.f5 [] false w args ∧ laidMetH Tryd.prog laidL w) ∧ sizedMet enc Tryd.prog Tryd.f5 (OpenSpec.ofChange Rows.testsMoreSpec) false w args)
      (Rows.testsMoreSpec.post enc Tryd.prog Tryd.f5 false true false false) := by
  refine returnsInHanded_of_change_and (C := Tryd.checked) (X := fun w _ => laidMetH Tryd.prog laidL w) (fun _ _ _ hh h => h.of_heap hh) own started (by kernel_rfl) Tryd.func5
    (ChangeSpec.witness_shaped (enc := enc) (C := Tryd.checked) (os := os) (X := fun w _ => laidMetH Tryd.prog laidL w) false (World.doorLaid Tryd.prog 400 os) #[.agg #[.slice none 0 0, .slice none 0 0, .slice none 0 0], .slice none 0 0, .agg #[.int .i64 0, .int .i64 0]] 8 rfl (World.shaped_of_RefB (by kernel_rfl) (by kernel_rfl)) (by kernel_rfl) (by kernel_rfl) (by kernel_rfl) (door_met os _)) ?_
  intro W base args ds gs before hval0 hW _ _ hL _
  have hval : ∀ (j : Nat) t v, Tryd.f5.params[j]? = some t → args[j]? = some v → Value.okWide Tryd.prog W .any base t v := hval0
  have hW' := hW
  obtain ⟨p, q, hA0, hV, rfl, hfz, hnd⟩ := hW
  have hA : DataW.TrodAll enc Tryd.prog W 0 (fun _ => true) true Tryd.f5.params.toList args.toList ds p := hA0
  rw [Tryd.params5] at hA hval
  obtain ⟨v0, v1, v2, d0, d1, d2, p0, p1, p2, rfl, rfl, rfl, h0, h1, h2⟩ := trodAll_three hA
  obtain ⟨rfl, rfl⟩ := trodVars_none hV
  have k0 := h0
  have lt0 := lt_of_trod h0
  have k1 := h1
  have lt1 := lt_of_trod h1
  have k2 := h2
  have lt2 := lt_of_trod h2
  obtain ⟨a1, len1, cap1, rfl⟩ := okWide_slice Tryd.underlying22 (hval 1 22 v1 rfl rfl)
  obtain ⟨ra, rk, R, hR0, _, hR⟩ : ∃ a k xs, Value.slice a1 len1 cap1 = .slice a xs.length k ∧ xs.length ≤ k ∧ IntsAt W a xs := by
    obtain ⟨fuel, hf⟩ := h1
    exact ints_of (by simpa [Value.cells] using hf)
  cases hR0
  obtain ⟨x, y, rfl⟩ := pair_of (hval 2 39 v2 rfl rfl) h2
  obtain ⟨C, hC⟩ := case_of (hval 0 25 v0 rfl rfl) h0
  have htab := tab_of_laid hL
  clear hA0 hval0
  refine (more_walk v0 C a1 _ cap1 R x y W hC rfl hR htab).mono fun e W' ⟨he, bel⟩ => ?_
  subst he
  exact ⟨_, rfl, _, _, _, [], _, [], hW', trodAll_mk1 (shut_bool Tryd.underlying4 _), trodAll_mk3 (Below.trod laidOut (by kernel_rfl) (of_decide_eq_true (by kernel_rfl)) k0 bel lt0) (Below.trod laidOut (by kernel_rfl) (of_decide_eq_true (by kernel_rfl)) k1 bel lt1) (Below.trod laidOut (by kernel_rfl) (of_decide_eq_true (by kernel_rfl)) k2 bel lt2), rfl, bel.frame _, fun h => by cases h⟩

theorem more_row : Rows.TestsMoreSaid :=
  OpenClaim.holds_of_wide 5 Tryd.f5 rfl rfl rfl rfl rfl rfl rfl ⟨rfl, rfl, rfl, rfl, rfl⟩ rfl rfl rfl rfl rfl (by kernel_rfl) Tryd.func5 (by kernel_rfl)
    (of_decide_eq_true (by kernel_rfl)) (by unfold Func.isWrapper; rw [if_neg (of_decide_eq_false (by kernel_rfl))]; exact ⟨rfl, rfl⟩)
    (fun os started H enc _ => more_lifted os started H enc)

theorem testsMore_holds : Rows.TestsMoreCardSaid :=
  Claim7.holds_tied_plain_at .later [] [.data, .data] true (true, "dab00dcf65d67cee71e69cf4849dd3e38156047f319ff6014a246132936f0765") false
    more_row (fun _ h => by cases h) (by kernel_rfl) (fun _ h => by cases h) testsMore_row_tie rfl ⟨rfl, rfl⟩ (by kernel_rfl) rfl
    (fun f fn hf hfn => by
      obtain rfl : f = 5 := Option.some.inj ((show Tryd.prog.funcNamed "ticking/tickinglaw07.TestsMore" = some 5 by kernel_rfl).symm.trans hf) |>.symm
      obtain rfl : fn = Tryd.f5 := (Option.some.inj (Tryd.func5.symm.trans hfn)).symm
      exact ⟨by kernel_rfl, fun j t ht => by
        rw [Tryd.params5] at ht
        have hm : t ∈ [25, 22, 39] := by simpa using Array.mem_of_getElem? ht
        have hall : ([25, 22, 39].all fun u => !Tryd.prog.wantsStandIn u) = true := by kernel_rfl
        exact (show Tryd.prog.wantsStandIn t = false by simpa using List.all_eq_true.1 hall t hm)⟩)
    (by kernel_rfl)
#print axioms testsMore_holds
end Go.Proofs.YtdbendnfgkonbaaDoor
