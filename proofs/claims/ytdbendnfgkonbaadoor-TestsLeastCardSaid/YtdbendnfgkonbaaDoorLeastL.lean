/- For every case and list of nodes that are given, the statement TestsLeast answers true and leaves its arguments as they were: no correct plan has a smaller mean than Best or a smaller worst than Worst, among them the greedy plan, both of these plans, and the given list of nodes; Check returns the numbers of all. No conditions beyond the given row's own (the two tables of math/bits as the program's text lays them, which the card ties). -/
import Derived.Test.YtdbendnfgkonbaaDoorCards
import Derived.Test.YtdbendnfgkonbaaDoorTie
import Derived.Test.YtdbendnfgkonbaaDoorFrameN
import Derived.Test.YtdbendnfgkonbaaDoorLeastW
import Derived.SevenTiedAt
namespace Go.Proofs.YtdbendnfgkonbaaDoor
open Go.ChangeShapes Go.WideShapes Go.ChangeAt Go.RowKit
set_option linter.unusedVariables false

set_option maxRecDepth 100000 in
theorem least_lifted (os : Os) (started : os.Started) (H : Type) (enc : TypeId × Value → H) :
    ReturnsInHanded {} Tryd.checked os 4 .any (fun w args => (Rows.testsLeastSpec.pre enc Tryd.prog Tryd.f4 [] false w args ∧ laidMetH Tryd.prog laidL w) ∧ sizedMet enc Tryd.prog Tryd.f4 (OpenSpec.ofChange Rows.testsLeastSpec) false w args)
      (Rows.testsLeastSpec.post enc Tryd.prog Tryd.f4 false true false false) := by
  refine returnsInHanded_of_change_and (C := Tryd.checked) (X := fun w _ => laidMetH Tryd.prog laidL w) (fun _ _ _ hh h => h.of_heap hh) own started (by kernel_rfl) Tryd.func4
    (ChangeSpec.witness_shaped (enc := enc) (C := Tryd.checked) (os := os) (X := fun w _ => laidMetH Tryd.prog laidL w) false (World.doorLaid Tryd.prog 400 os) #[.agg #[.slice none 0 0, .slice none 0 0, .slice none 0 0], .slice none 0 0] 8 rfl (World.shaped_of_RefB (by kernel_rfl) (by kernel_rfl)) (by kernel_rfl) (by kernel_rfl) (by kernel_rfl) (door_met os _)) ?_
  intro W base args ds gs before hval0 hW _ _ hL _
  have hval : ∀ (j : Nat) t v, Tryd.f4.params[j]? = some t → args[j]? = some v → Value.okWide Tryd.prog W .any base t v := hval0
  have hW' := hW
  obtain ⟨p, q, hA0, hV, rfl, hfz, hnd⟩ := hW
  have hA : DataW.TrodAll enc Tryd.prog W 0 (fun _ => true) true Tryd.f4.params.toList args.toList ds p := hA0
  rw [Tryd.params4] at hA hval
  obtain ⟨v0, v1, d0, d1, p0, p1, rfl, rfl, rfl, h0, h1⟩ := trodAll_two hA
  obtain ⟨rfl, rfl⟩ := trodVars_none hV
  have k0 := h0
  have lt0 := lt_of_trod h0
  have k1 := h1
  have lt1 := lt_of_trod h1
  obtain ⟨a1, len1, cap1, rfl⟩ := okWide_slice Tryd.underlying27 (hval 1 27 v1 rfl rfl)
  obtain ⟨pa, pk, l0, hR0, hpk, hnil, hR⟩ : ∃ a k l, Value.slice a1 len1 cap1 = .slice a l.length k ∧ l.length ≤ k ∧ (a = none → k = 0) ∧ NodesAt W a l := by
    obtain ⟨fuel, hf⟩ := h1
    exact nodes_of (by simpa [Value.cells] using hf)
  cases hR0
  obtain ⟨C, hC⟩ := case_of (hval 0 25 v0 rfl rfl) h0
  have htab := tab_of_laid hL
  clear hA0 hval0
  refine (least_walk v0 C a1 _ cap1 l0 W hC rfl hR hpk hnil htab).mono fun e W' ⟨he, bel⟩ => ?_
  subst he
  exact ⟨_, rfl, _, _, _, [], _, [], hW', trodAll_mk1 (shut_bool Tryd.underlying4 _), trodAll_mk2 (Below.trod laidOut (by kernel_rfl) (of_decide_eq_true (by kernel_rfl)) k0 bel lt0) (Below.trod laidOut (by kernel_rfl) (of_decide_eq_true (by kernel_rfl)) k1 bel lt1), rfl, bel.frame _, fun h => by cases h⟩

theorem least_row : Rows.TestsLeastSaid :=
  OpenClaim.holds_of_wide 4 Tryd.f4 rfl rfl rfl rfl rfl rfl rfl ⟨rfl, rfl, rfl, rfl, rfl⟩ rfl rfl rfl rfl rfl (by kernel_rfl) Tryd.func4 (by kernel_rfl)
    (of_decide_eq_true (by kernel_rfl)) (by unfold Func.isWrapper; rw [if_neg (of_decide_eq_false (by kernel_rfl))]; exact ⟨rfl, rfl⟩)
    (fun os started H enc _ => least_lifted os started H enc)

theorem testsLeast_holds : Rows.TestsLeastCardSaid :=
  Claim7.holds_tied_plain_at .later [] [.data, .data] true (true, "dab00dcf65d67cee71e69cf4849dd3e38156047f319ff6014a246132936f0765") false
    least_row (fun _ h => by cases h) (by kernel_rfl) (fun _ h => by cases h) testsLeast_row_tie rfl ⟨rfl, rfl⟩ (by kernel_rfl) rfl
    (fun f fn hf hfn => by
      obtain rfl : f = 4 := Option.some.inj ((show Tryd.prog.funcNamed "ticking/tickinglaw07.TestsLeast" = some 4 by kernel_rfl).symm.trans hf) |>.symm
      obtain rfl : fn = Tryd.f4 := (Option.some.inj (Tryd.func4.symm.trans hfn)).symm
      exact ⟨by kernel_rfl, fun j t ht => by
        rw [Tryd.params4] at ht
        have hm : t ∈ [25, 27] := by simpa using Array.mem_of_getElem? ht
        have hall : ([25, 27].all fun u => !Tryd.prog.wantsStandIn u) = true := by kernel_rfl
        exact (show Tryd.prog.wantsStandIn t = false by simpa using List.all_eq_true.1 hall t hm)⟩)
    (by kernel_rfl)
#print axioms testsLeast_holds
end Go.Proofs.YtdbendnfgkonbaaDoor
