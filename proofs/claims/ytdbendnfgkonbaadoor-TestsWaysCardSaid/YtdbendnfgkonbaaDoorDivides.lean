/- Contract of divides. -/
import Derived.Test.YtdbendnfgkonbaaDoorCmp
namespace Go.Proofs.YtdbendnfgkonbaaDoor
open Go.RowKit
set_option linter.unusedVariables false
set_option linter.unusedSimpArgs false

/-- The results of fault f in the tests l, as a number. -/
def resTo (ones : List Nat) (f : Nat) (l : List Nat) : Nat := l.foldl (fun r k => 2 * r + ((ones.getD k 0) / 2 ^ f % 2)) 0
/-- Are the results of fault f other than those of all smaller faults? -/
def freshF (ones : List Nat) (l : List Nat) (f : Nat) : Bool := !((List.range f).any fun g => resTo ones g l == resTo ones f l)
def dividesB (ones : List Nat) (l : List Nat) (n : Nat) : Bool := (List.range n).all (freshF ones l)

theorem resTo_snoc (ones : List Nat) (f : Nat) (l : List Nat) (k : Nat) : resTo ones f (l ++ [k]) = 2 * resTo ones f l + ((ones.getD k 0) / 2 ^ f % 2) := by simp [resTo]
theorem resTo_lt (ones : List Nat) (f : Nat) : ∀ l : List Nat, resTo ones f l < 2 ^ l.length := by
  intro l
  generalize hm : l.length = m
  induction m generalizing l with
  | zero => rw [List.length_eq_zero_iff] at hm; subst hm; simp [resTo]
  | succ m ih =>
    have hne : l ≠ [] := by intro h; subst h; simp at hm
    rw [← List.dropLast_concat_getLast hne, resTo_snoc]
    have := ih l.dropLast (by simp; omega)
    have : (ones.getD (l.getLast hne) 0) / 2 ^ f % 2 < 2 := Nat.mod_lt _ (by omega)
    rw [Nat.pow_succ]
    omega

/-- What the map of seen results says behind f faults. -/
def SeenTo (ones : List Nat) (l : List Nat) (f : Nat) (M : List (Int × Value)) : Prop :=
  ∀ r : Nat, lookM M (r : Int) = if (List.range f).any (fun g => resTo ones g l == r) then some (.bool true) else none

theorem SeenTo.step {ones l : List Nat} {f : Nat} {M : List (Int × Value)} (h : SeenTo ones l f M) : SeenTo ones l (f + 1) (upsM M (resTo ones f l : Int) (.bool true)) := by
  intro r
  rw [lookM_ups, h r, List.range_succ, List.any_append]
  by_cases e : r = resTo ones f l
  · subst e; simp
  · have e' : ¬ ((r : Int) = (resTo ones f l : Int)) := by omega
    have e2 : (resTo ones f l == r) = false := by simpa using fun h => e h.symm
    rw [if_neg e']
    simp [e2]
theorem SeenTo.start (ones l : List Nat) : SeenTo ones l 0 [] := fun r => by simp [lookM]

theorem res_step (r y f : Nat) (hr : r < 4096) (hy : y < 2 ^ 63) : bits BinOp.or IntKind.i64 ((r : Int) * 2) (wrap64 (bits BinOp.and IntKind.u64 ((y : Int) / 2 ^ f) 1)) = ((2 * r + y / 2 ^ f % 2 : Nat) : Int) := by
  have hc : ((y : Int) / 2 ^ f) = ((y / 2 ^ f : Nat) : Int) := by simp
  have h1 : y / 2 ^ f ≤ y := Nat.div_le_self _ _
  generalize hd : y / 2 ^ f = d at *
  rw [hc, and_one_u64 _ (by omega) (by omega)]
  have hb : ((d : Int) % 2) = ((d % 2 : Nat) : Int) := by omega
  have hb2 : d % 2 < 2 := Nat.mod_lt _ (by omega)
  rw [hb]
  generalize d % 2 = b at *
  have hw : wrap64 (b : Int) = b := by unfold wrap64; omega
  have hw2 : ∀ n : Int, 0 ≤ n → n < 2 ^ 62 → IntKind.i64.wrap n = n := fun n h0 h1 => by rw [IntKind.wrap_i64]; omega
  have e : ((r : Int) * 2) = ((r * 2 : Nat) : Int) := by omega
  rw [hw, e, (bits_nat .i64 62 (by decide) hw2 _ _ (by omega) (by omega)).2]
  have := Nat.two_pow_add_eq_or_of_lt (i := 1) (b := b) (by omega) r
  simp only [Nat.pow_one] at this
  rw [Nat.mul_comm r 2, ← this]
theorem zero_bool (w : World) : (zeroValue 4).run Tryd.prog w = .ok (.bool false) w := by kernel_rfl

theorem dividesB_no {ones l : List Nat} {n f : Nat} (hf : f < n) (h : freshF ones l f = false) : dividesB ones l n = false := by
  rw [dividesB, List.all_eq_false]
  exact ⟨f, List.mem_range.2 hf, by simp [h]⟩

set_option maxHeartbeats 1000000 in
theorem divides_any (tv : Value) (C : CaseD) (a : Option Addr) (n k : Nat) (l : List Nat) (w : World) (hT : TrialAt w tv C) (hok : caseOk C = true) (hn : n = l.length) (hl : IntsAt w a (l.map fun x : Nat => (x : Int))) (hlen : l.length ≤ 12)
    (hin : ∀ x ∈ l, x < C.ts.length) :
    Calls Tryd.prog 38 #[tv, .slice a n k] w fun e w' => e = .returned (.bool (dividesB (C.ts.map mask) l C.ws.length)) ∧ Ext w w' := by
  obtain ⟨aw, at_, ac, ao, kw, kt, kc, ko, rfl, h1, h2, h3, h4, hw, ht, hc, hu⟩ := hT
  have hn10 := (caseOk_n hok).2
  have hm := fun x hx => mask_small hok (x := x) hx
  have hts := caseOk_ts hok
  obtain ⟨ws, ts, cs⟩ := C
  dsimp only at *
  unfold trialV
  subst hn
  have hmm := @run_makeMap Tryd.prog
  go_enter Tryd.func38, Tryd.ntmps38
  go_wp2_with fail
  go_loopw [15] (fun i wr => ∃ (f : Nat) (M : List (Int × Value)), f ≤ ws.length ∧ i = .int .i64 f ∧ (List.range f).all (freshF (ts.map mask) l) = true ∧ SeenTo (ts.map mask) l f M ∧
      wr.heap[w.heap.size]? = some (.cells #[.slice aw ws.length kw, .slice at_ ts.length kt, .slice ac cs.length kc, .slice ao ts.length ko, .int .u64 ((2 ^ ws.length - 1 : Nat) : Int)] 67 (0, 0)) ∧
      MapAt wr (w.heap.size + 1) .i64 M ∧ Ext w wr) (fun i _ => ws.length - (intOf i).toNat)
  case atStart =>
    refine ⟨0, [], Nat.zero_le _, rfl, by simp, SeenTo.start _ _, heap_alloc (heap_alloc_new _ _), ?_, (Ext.alloc _ _).trans (Ext.alloc _ _)⟩
    simpa using MapAt.made (w.alloc (.cells #[.slice aw ws.length kw, .slice at_ ts.length kt, .slice ac cs.length kc, .slice ao ts.length ko, .int .u64 ((2 ^ ws.length - 1 : Nat) : Int)] 67)) .i64
  case round =>
    obtain ⟨f, M, hf, rfl, hall, hseen, hT, hM, hext⟩ := hrel
    obtain ⟨t0, t1, t2, t3, t4⟩ := cells5 hT
    have HALL := Lib.hid hall
    have HSEEN := Lib.hid hseen
    clear hall hseen
    have hl' := hl.ext hext
    have hu' := hu.ext hext
    by_cases hlt : f < ws.length
    · go_wp2_with fail
      go_loop [7, 20] (fun r i => ∃ m : Nat, m ≤ l.length ∧ i = .int .i64 m ∧ r = .int .i64 (resTo (ts.map mask) f (l.take m) : Int)) (fun _ i => l.length - (intOf i).toNat)
      case atStart => exact ⟨0, Nat.zero_le _, rfl, rfl⟩
      case round =>
        obtain ⟨m, hm', rfl, rfl⟩ := hrel
        by_cases hltm : m < l.length
        · obtain ⟨b, off, x, rfl, cx, hxm⟩ := hl'.get (i := m) (by simpa using hltm)
          obtain ⟨kx, hkx, hxe⟩ : ∃ kx : Nat, l[m]? = some kx ∧ x = (kx : Int) := by
            have := hxm.out
            rw [List.getElem?_map] at this
            obtain ⟨y, hy, rfl⟩ := Option.map_eq_some_iff.1 this
            exact ⟨y, hy, rfl⟩
          subst hxe
          have hkt : kx < ts.length := hin kx (List.mem_of_getElem? hkx)
          obtain ⟨bo, oo, y, hao, cy, hyk⟩ := hu'.get (i := kx) (by simpa using hkt)
          subst hao
          have HKX := Lib.hid hkx
          have hsm := Lib.hid (resTo_snoc (ts.map mask) f (l.take m) kx)
          have hrl := resTo_lt (ts.map mask) f (l.take m)
          clear hkx
          have h12 : (2 : Nat) ^ (l.take m).length ≤ 2 ^ 12 := Nat.pow_le_pow_right (by omega) (by simp; omega)
          generalize hr : resTo (ts.map mask) f (l.take m) = r at *
          have hr12 : r < 4096 := by omega
          clear hrl h12
          have hy := hm y (List.mem_of_getElem? hyk.out)
          have hbs := Lib.hid (res_step r y f hr12 hy)
          go_wp2_with fail
          go_round
          case rel =>
            refine ⟨m + 1, by omega, by go_num, ?_⟩
            have e1 : l.take (m + 1) = l.take m ++ [kx] := by rw [List.take_add_one, HKX.out]; rfl
            have e2 : (ts.map mask).getD kx 0 = y := by simp only [List.getD, hyk.out]; rfl
            rw [hbs.out, e1, hsm.out, e2]
          case measure => simp [intOf]; omega
        · obtain rfl : m = l.length := by omega
          rw [List.take_length]
          obtain ⟨r, hr⟩ : ∃ r, resTo (ts.map mask) f l = r := ⟨_, rfl⟩
          have HR := Lib.hid hr
          rw [hr]
          clear hr
          have hlook := run_lookup_at (w := wr) Tryd.underlying91 Tryd.underlying3 hM (zero_bool wr) (r : Int)
          rw [HSEEN.out r] at hlook
          cases hfr : freshF (ts.map mask) l f with
          | false =>
            have hany : ((List.range f).any fun g => resTo (ts.map mask) g l == r) = true := by rw [← HR.out]; simpa [freshF] using hfr
            rw [hany] at hlook
            have HNO := Lib.hid (dividesB_no hlt hfr)
            clear hfr hany
            go_wp2_with fail
            go_ret
            exact ⟨ret_eq (by rw [HNO.out]; rfl), hext⟩
          | true =>
            have hany : ((List.range f).any fun g => resTo (ts.map mask) g l == r) = false := by rw [← HR.out]; simpa [freshF] using hfr
            rw [hany] at hlook
            have HFR := Lib.hid hfr
            have hse := Lib.hid HSEEN.out.step
            clear hfr hany
            go_wp2_with (at_mapUpdate; refine wpList_update_int _ rfl _ _ _ 91 rfl 3 4 .i64 Tryd.underlying91 Tryd.underlying3 (w.heap.size + 1) M rfl hM (r : Int) _ rfl rfl ?_)
            intro w4 hM4 hgrow
            have hT4 := (hgrow.block w.heap.size (heap_lt hT) (by simp)).trans hT
            have hext4 : Ext w w4 := hext.grown hgrow hext.size (fun k hk => by cases hk; omega)
            go_wp2_with fail
            go_roundw
            case rel =>
              refine ⟨f + 1, _, by omega, by go_num, ?_, ?_, hT4, hM4, hext4⟩
              · rw [List.range_succ, List.all_append, HALL.out]; simp [HFR.out]
              · rw [← HR.out]; exact hse.out
            case measure => simp [intOf]; omega
    · obtain rfl : f = ws.length := by omega
      go_wp2_with fail
      go_ret
      exact ⟨ret_eq (by rw [dividesB, HALL.out]; rfl), hext⟩
end Go.Proofs.YtdbendnfgkonbaaDoor
