/- Contract at a good case and good results: Left. -/
import Derived.Test.YtdbendnfgkonbaaDoorCheck
namespace Go.Proofs.YtdbendnfgkonbaaDoor
open Go.RowKit
set_option linter.unusedVariables false
set_option linter.unusedSimpArgs false

theorem pairCells_get (x : Nat × Nat) : ∀ (l : List (Nat × Nat)) (i : Nat), l[i]? = some x → (pairCells l)[i * 2]? = some (.int .i64 (x.1 : Int)) ∧ (pairCells l)[i * 2 + 1]? = some (.int .i64 (x.2 : Int))
  | [], i, h => by simp at h
  | y :: r, 0, h => by cases h; exact ⟨rfl, rfl⟩
  | y :: r, i + 1, h => by
    have ih := pairCells_get x r i (by simpa using h)
    have e1 : (i + 1) * 2 = i * 2 + 2 := by omega
    have e2 : (i + 1) * 2 + 1 = i * 2 + 1 + 2 := by omega
    rw [e1]
    exact ⟨ih.1, ih.2⟩
theorem pairs_at {w : World} {a : Option Addr} {l : List (Nat × Nat)} (h : CellsAt w a (pairCells l)) {i : Nat} (hi : i < l.length) :
    ∃ b off, ∃ x : Nat × Nat, a = some ⟨b, off, none⟩ ∧ w.cell? ⟨b, off + i * 2, none⟩ = some (.int .i64 (x.1 : Int)) ∧ w.cell? ⟨b, off + i * 2 + 1, none⟩ = some (.int .i64 (x.2 : Int)) ∧ Hid (l[i]? = some x) := by
  have hx : l[i]? = some l[i] := List.getElem?_eq_getElem hi
  obtain ⟨h0, h1⟩ := pairCells_get _ l i hx
  obtain ⟨b, off, rfl, c0⟩ := h _ _ h0
  obtain ⟨b', off', e, c1⟩ := h _ _ h1
  cases e
  exact ⟨b, off, l[i], rfl, c0, c1, Lib.hid hx⟩

def leftS (ones : List Nat) (s : Nat) (p : Nat × Nat) : Nat := if p.2 = 1 then s &&& ones.getD p.1 0 else sdiff s (ones.getD p.1 0)
def leftTo (ones : List Nat) (all : Nat) (rs : List (Nat × Nat)) : Nat := rs.foldl (leftS ones) all
theorem leftS_lt {ones : List Nat} {s n : Nat} (h : s < 2 ^ n) (p : Nat × Nat) : leftS ones s p < 2 ^ n := by
  unfold leftS
  split
  · exact and_lt h
  · exact sdiff_lt h
theorem leftTo_lt {ones : List Nat} {n : Nat} : ∀ (rs : List (Nat × Nat)) (s : Nat), s < 2 ^ n → leftTo ones s rs < 2 ^ n
  | [], s, h => h
  | p :: rs, s, h => leftTo_lt rs _ (leftS_lt h p)
theorem leftTo_snoc (ones : List Nat) (all : Nat) (rs : List (Nat × Nat)) (p : Nat × Nat) : leftTo ones all (rs ++ [p]) = leftS ones (leftTo ones all rs) p := by simp [leftTo]

set_option maxRecDepth 8000 in
set_option maxHeartbeats 4000000 in
theorem Left_ok (cv : Value) (C : CaseD) (a : Option Addr) (n k : Nat) (rs : List (Nat × Nat)) (w : World) (hC : CaseAt w cv C) (hok : caseOk C = true) (hn : n = rs.length) (hl : CellsAt w a (pairCells rs)) (hlen : rs.length ≤ 100) (hr : ∀ p ∈ rs, p.1 < C.ts.length ∧ p.2 ≤ 1) :
    Calls Tryd.prog 30 #[cv, .slice a n k] w fun e w' => ∃ a' k', e = .returned (.tuple #[.slice a' (bitsTo (leftTo (C.ts.map mask) (2 ^ C.ws.length - 1) rs) C.ws.length).length k', .int .i64 0]) ∧
      w'.ownsRow w.heap.size 3 1 (.slice a' (bitsTo (leftTo (C.ts.map mask) (2 ^ C.ws.length - 1) rs) C.ws.length).length k') (bitsTo (leftTo (C.ts.map mask) (2 ^ C.ws.length - 1) rs) C.ws.length).length (natCells (bitsTo (leftTo (C.ts.map mask) (2 ^ C.ws.length - 1) rs) C.ws.length)) ∧ Ext w w' := by
  have hC0 := hC
  obtain ⟨aw, kw, at_, kt, ac, kc, rfl, k1, k2, k3, hw, ht, hc⟩ := hC
  have hC1 := Lib.hid (hC0.ext (Ext.alloc w (.cells #[.slice aw C.ws.length kw, .slice at_ C.ts.length kt, .slice ac C.cs.length kc] 25)))
  have HL := Lib.hid hl
  have HN := Lib.hid hn
  have HOK := Lib.hid hok
  have HR := Lib.hid hr
  have hnw := caseOk_n hok
  have hm := fun x hx => mask_small hok (x := x) hx
  have HM := Lib.hid hm
  have hts := caseOk_ts hok
  obtain ⟨nw, hnwE⟩ : ∃ nw, C.ws.length = nw := ⟨_, rfl⟩
  have HNW := Lib.hid hnwE
  obtain ⟨T, hTE⟩ : ∃ T, C.ts.length = T := ⟨_, rfl⟩
  have HTE := Lib.hid hTE
  rw [hnwE] at hnw
  rw [hTE] at hts
  obtain ⟨hn1, hn10⟩ := hnw
  rw [← hn] at hlen
  have hall63 : 2 ^ nw - 1 < 2 ^ 10 := by
    have := Nat.pow_le_pow_right (n := 2) (by omega) hn10
    have : 0 < 2 ^ nw := Nat.two_pow_pos _
    omega
  have hall := fun rs => leftTo_lt (ones := C.ts.map mask) (n := 10) rs (2 ^ nw - 1) hall63
  have HALL := Lib.hid hall
  clear hC0 hw ht hc hl hn hok hr hm hnwE hTE hall hall63
  rw [HNW.out, HTE.out] at hC1 ⊢
  go_enter Tryd.func30, Tryd.ntmps30
  go_wp2_with fail
  refine (newTrial_ok _ C _ hC1.out HOK.out).mono ?_
  rintro e w1 ⟨tv, rfl, hT, hx1⟩
  have HX1 := Lib.hid hx1.of_alloc
  obtain ⟨aw', at', ac', ao', kw', kt', kc', ko', rfl, h1, h2, h3, h4, hw', ht', hc', hu'⟩ := hT
  have HU := Lib.hid hu'
  unfold trialV
  rw [HNW.out, HTE.out]
  obtain ⟨all, hallE⟩ : ∃ all : Nat, 2 ^ nw - 1 = all := ⟨_, rfl⟩
  have HAE := Lib.hid hallE
  rw [hallE] at HALL ⊢
  obtain ⟨ncs, hncs⟩ : ∃ ncs, C.cs.length = ncs := ⟨_, rfl⟩
  rw [hncs]
  have hbT := Lib.hid (heap_alloc_new w1 (.cells #[.slice aw' nw kw', .slice at' T kt', .slice ac' ncs kc', .slice ao' T ko', .int .u64 (all : Int)] 67))
  clear hw' ht' hc' hu' hx1 h1 h2 h3 h4 hallE hncs hC1
  go_wp2_with fail
  go_loopw [8, 29] (fun s8 i wr => ∃ j : Nat, j ≤ n ∧ i = .int .i64 j ∧ s8 = .int .u64 (leftTo (C.ts.map mask) all (rs.take j) : Int) ∧ Ext w wr ∧ wr.heap[w1.heap.size]? = some (.cells #[.slice aw' nw kw', .slice at' T kt', .slice ac' ncs kc', .slice ao' T ko', .int .u64 (all : Int)] 67 (0, 0)) ∧
      Hid (UintsAt wr ao' (C.ts.map mask))) (fun _ i _ => n - (intOf i).toNat)
  case atStart => exact ⟨0, Nat.zero_le _, rfl, rfl, HX1.out.trans (Ext.alloc _ _), hbT.out, Lib.hid (HU.out.ext (Ext.alloc _ _))⟩
  case round =>
    obtain ⟨j, hj, rfl, rfl, hxr, hb, HUU⟩ := hrel
    have HXR := Lib.hid hxr
    have HB := Lib.hid hb
    obtain ⟨t0, t1, t2, t3, t4⟩ := cells5 hb
    have z1 := heap_lt hb
    have hs10 := HALL.out (rs.take j)
    obtain ⟨s, hs⟩ : ∃ s, leftTo (C.ts.map mask) all (rs.take j) = s := ⟨_, rfl⟩
    rw [hs] at hs10 ⊢
    have HS := Lib.hid hs
    clear hxr hb hs
    by_cases hlt : j < n
    · obtain ⟨b, off, p, rfl, p0, p1, hp⟩ := pairs_at (CellsAt.ext HL.out HXR.out) (i := j) (by rw [← HN.out]; exact hlt)
      obtain ⟨ptn, pr⟩ := p
      dsimp only at p0 p1
      obtain ⟨hp1, hp2⟩ := HR.out (ptn, pr) (List.mem_of_getElem? hp.out)
      dsimp only at hp1 hp2
      rw [HTE.out] at hp1
      obtain ⟨ob, oo, mk, rfl, cmk, hmk⟩ := HUU.out.get (i := ptn) (by rw [List.length_map, HTE.out]; exact hp1)
      have hmks := HM.out mk (List.mem_of_getElem? hmk.out)
      have hgm : (C.ts.map mask).getD ptn 0 = mk := by rw [List.getD_eq_getElem?_getD, hmk.out]; rfl
      have hst : leftTo (C.ts.map mask) all (rs.take (j + 1)) = leftS (C.ts.map mask) s (ptn, pr) := by
        rw [List.take_add_one, hp.out, ← HS.out]
        exact leftTo_snoc _ _ _ _
      unfold leftS at hst
      dsimp only at hst
      rw [hgm] at hst
      have HST := Lib.hid hst
      have pz := lt_of_cell p0
      have oz := lt_of_cell cmk
      have hin1 : inR (ptn : Int) 0 ((T : Int) - 1) = true := (inR_iff _ _ _).2 (by omega)
      have hin2 : inR (pr : Int) 0 1 = true := (inR_iff _ _ _).2 (by omega)
      have i0 : (0 : Int) ≤ (ptn : Int) := by omega
      have i1 : (ptn : Int) < (T : Int) := by omega
      have hand := bits_and_u64 s mk (by omega) hmks
      have hnot := bits_not_u64 s mk (by omega) hmks
      clear hgm hst hp hmk
      by_cases hpr : pr = 1
      · subst hpr
        go_wp2_with (go_at_call 49; refine (within_any _ _ _ _).mono ?_; rintro e w' ⟨rfl, rfl⟩)
        go_roundw
        case rel => exact ⟨j + 1, by omega, by go_num, by rw [HST.out]; rfl, HXR.out.trans (Ext.alloc _ _), heap_alloc HB.out, Lib.hid (HUU.out.ext (Ext.alloc _ _))⟩
        case measure => simp [intOf]; omega
      · obtain rfl : pr = 0 := by omega
        go_wp2_with (go_at_call 49; refine (within_any _ _ _ _).mono ?_; rintro e w' ⟨rfl, rfl⟩)
        go_roundw
        case rel => exact ⟨j + 1, by omega, by go_num, by rw [HST.out]; rfl, HXR.out.trans (Ext.alloc _ _), heap_alloc HB.out, Lib.hid (HUU.out.ext (Ext.alloc _ _))⟩
        case measure => simp [intOf]; omega
    · obtain rfl : j = n := by omega
      have hrs : rs.take j = rs := List.take_of_length_le (by rw [← HN.out]; exact Nat.le_refl _)
      have hs2 := HS.out
      rw [hrs] at hs2
      have HS2 := Lib.hid hs2
      clear hrs hs2
      obtain ⟨i1, hi1, hz10, hz11, hz12⟩ := info_parts info_int
      clear t0 t1 t2 t3 t4
      obtain ⟨t0, t1, t2, t3, t4⟩ := cells5 HB.out
      go_wp2_with fail
      go_loopw [11, 71] (fun o i wq => ∃ (m : Nat) (la : Option Addr) (lk : Nat), m ≤ nw ∧ i = .int .i64 m ∧ o = .slice la (bitsTo s m).length lk ∧ wq.ownsRow wr.heap.size 3 1 (.slice la (bitsTo s m).length lk) (bitsTo s m).length (natCells (bitsTo s m)) ∧ Ext wr wq)
        (fun _ i _ => nw - (intOf i).toNat)
      case atStart => exact ⟨0, none, 0, Nat.zero_le _, rfl, rfl, World.ownsRow_nil _ _ _ _, Ext.refl _⟩
      case round =>
        rename World => wq
        obtain ⟨m, la, lk, hm, rfl, rfl, hown, hqx⟩ := hrel
        have hml := bitsTo_len s m
        by_cases hltm : m < nw
        · have hstep := bitsTo_step s m
          have hhas := fun w' => has_any s m w' (by omega) (by omega)
          have HHAS := Lib.hid hhas
          clear hhas
          cases hbit : s.testBit m with
          | true =>
            rw [if_pos hbit] at hstep
            have HST := Lib.hid hstep
            rw [hbit] at HHAS
            have hqs := hqx.size
            clear hbit hstep
            go_wp2_with (first | (go_at_call 51; refine (HHAS.out _).mono ?_; rintro e w' ⟨rfl, rfl⟩) | (at_builtin; refine wpList_append_own _ rfl _ _ 22 rfl wr.heap.size 3 i1 (.int .i64 0) 1 8 Tryd.underlying22 hi1 hz10 hz11 hz12 rfl (by decide) _ _ _ rfl (hown.alloc _) ⟨wq.heap.size, 0, none⟩ 1 1 [.int .i64 (m : Int)] rfl rfl (World.news_of_block (cs := #[.int .i64 (m : Int)]) (heap_alloc_new wq _)) (by simp [Value.oneCell']) (by unfold maxLen; omega) (by omega) (by simp; omega) ?_))
            intro v' w4 hown4 hgrow _
            have hqx4 := ext_grown hqx hgrow hown (by omega)
            obtain ⟨la', lk', hv', _, _⟩ := cells_of_own hown4
            rw [hv'] at hown4 ⊢
            have HQ4 := Lib.hid hqx4
            have HOWN4 := Lib.hid hown4
            clear hgrow hown hv' hown4 hqx4
            go_wp2_with fail
            go_roundw
            case rel =>
              refine ⟨m + 1, la', lk', by omega, by go_num, by rw [HST.out, List.length_append]; rfl, ?_, HQ4.out⟩
              rw [HST.out, List.length_append]
              simpa [natCells] using HOWN4.out
            case measure => simp [intOf]; omega
          | false =>
            rw [if_neg (by rw [hbit]; decide), List.append_nil] at hstep
            have HST := Lib.hid hstep
            rw [hbit] at HHAS
            clear hbit hstep
            go_wp2_with (go_at_call 51; refine (HHAS.out _).mono ?_; rintro e w' ⟨rfl, rfl⟩)
            go_roundw
            case rel => exact ⟨m + 1, la, lk, by omega, by go_num, by rw [HST.out], by rw [HST.out]; exact hown, hqx⟩
            case measure => simp [intOf]; omega
        · obtain rfl : m = nw := by omega
          have HOWN := Lib.hid hown
          have HQX := Lib.hid hqx
          clear hown hqx
          go_wp2_with fail
          go_ret2
          rw [HAE.out, HS2.out]
          exact ⟨la, lk, rfl, own_base HOWN.out HXR.out.size, HXR.out.trans HQX.out⟩
end Go.Proofs.YtdbendnfgkonbaaDoor
