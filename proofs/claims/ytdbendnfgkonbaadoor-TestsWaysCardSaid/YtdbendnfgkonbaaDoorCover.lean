/- Contract of tests.Cover. -/
import Derived.Test.YtdbendnfgkonbaaDoorMathA
import Derived.Test.YtdbendnfgkonbaaDoorAppends
import Derived.Lib.SliceRun
namespace Go.Proofs.YtdbendnfgkonbaaDoor
open Go.RowKit
set_option linter.unusedVariables false
set_option linter.unusedSimpArgs false

theorem has_bit64 (s f : Nat) (hs : s < 2 ^ 62) : (bits BinOp.and IntKind.i64 ((s : Int) / 2 ^ f) 1 == 1) = s.testBit f := by
  have hc : ((s : Int) / 2 ^ f) = ((s / 2 ^ f : Nat) : Int) := by simp
  have h1 : s / 2 ^ f ≤ s := Nat.div_le_self _ _
  have hw2 : ∀ n : Int, 0 ≤ n → n < 2 ^ 62 → IntKind.i64.wrap n = n := fun n h0 h1 => by rw [IntKind.wrap_i64]; omega
  generalize hd : s / 2 ^ f = d at *
  have := bits_mask .i64 62 (by decide) hw2 1 (by decide) (d : Int) (by omega) (by omega)
  simp only [Int.pow_one] at this
  rw [hc, show (1 : Int) = 2 - 1 from rfl, this, Nat.testBit_eq_decide_div_mod_eq, hd]
  rw [Bool.eq_iff_iff]
  simp
  omega

def bitsTo (s m : Nat) : List Nat := (List.range m).filter fun k => s.testBit k
theorem bitsTo_step (s m : Nat) : bitsTo s (m + 1) = bitsTo s m ++ if s.testBit m then [m] else [] := by
  unfold bitsTo
  rw [List.range_succ, List.filter_append]
  congr 1
  by_cases h : s.testBit m <;> simp [h]
theorem bitsTo_len (s m : Nat) : (bitsTo s m).length ≤ m := by
  unfold bitsTo
  exact Nat.le_trans (List.length_filter_le _ _) (by simp)
theorem bitsTo_lt (s m : Nat) : ∀ x ∈ bitsTo s m, x < m := by
  intro x hx
  exact List.mem_range.1 (List.mem_filter.1 hx).1

/-- Is l before b: shorter, or as long and lexicographically smaller? -/
def before (l b : List Nat) : Bool := decide (or2 (cmpI (l.length : Int) (b.length : Int)) (cmpL (l.map fun x : Nat => (x : Int)) (b.map fun x : Nat => (x : Int))) < 0)
def beforeO (l : List Nat) : Option (List Nat) → Bool
  | none => true
  | some b => before l b
def better (ones : List Nat) (n T : Nat) (bb : Option (List Nat)) (s : Nat) : Option (List Nat) :=
  if dividesB ones (bitsTo s T) n && beforeO (bitsTo s T) bb then some (bitsTo s T) else bb
def coverTo (ones : List Nat) (n T : Nat) : Nat → Option (List Nat)
  | 0 => none
  | s + 1 => better ones n T (coverTo ones n T s) s
def coverL (ones : List Nat) (n T : Nat) : List Nat := (coverTo ones n T (2 ^ T)).getD []

theorem coverTo_len (ones : List Nat) (n T : Nat) : ∀ (s : Nat) (b : List Nat), coverTo ones n T s = some b → b.length ≤ T
  | 0, b, h => by simp [coverTo] at h
  | s + 1, b, h => by
    rw [coverTo] at h
    unfold better at h
    by_cases hc : (dividesB ones (bitsTo s T) n && beforeO (bitsTo s T) (coverTo ones n T s)) = true
    · rw [if_pos hc] at h; cases h; exact bitsTo_len s T
    · rw [if_neg hc] at h; exact coverTo_len ones n T s b h

theorem coverTo_isSome (ones : List Nat) (n T s : Nat) (hd : dividesB ones (bitsTo s T) n = true) : ∀ m, s < m → coverTo ones n T m ≠ none
  | 0, h => by omega
  | m + 1, h => by
    rw [coverTo]
    unfold better
    by_cases hc : (dividesB ones (bitsTo m T) n && beforeO (bitsTo m T) (coverTo ones n T m)) = true
    · rw [if_pos hc]; simp
    · rw [if_neg hc]
      by_cases hs : s < m
      · exact coverTo_isSome ones n T s hd m hs
      · obtain rfl : s = m := by omega
        intro hn
        rw [hn, hd] at hc
        simp [beforeO] at hc
theorem bitsTo_full (T : Nat) : bitsTo (2 ^ T - 1) T = List.range T := by
  unfold bitsTo
  rw [List.filter_eq_self]
  intro k hk
  rw [Nat.testBit_two_pow_sub_one]
  simpa using hk
theorem coverTo_found (ones : List Nat) (n : Nat) (h : alikeL ones n = []) : ∃ l, coverTo ones n ones.length (2 ^ ones.length) = some l := by
  have h1 : 0 < 2 ^ ones.length := Nat.two_pow_pos _
  have := coverTo_isSome ones n ones.length (2 ^ ones.length - 1) (by rw [bitsTo_full]; exact (divides_all_iff ones n).2 h) (2 ^ ones.length) (by omega)
  cases hc : coverTo ones n ones.length (2 ^ ones.length) with
  | none => exact absurd hc this
  | some l => exact ⟨l, rfl⟩

def natCells (l : List Nat) : List Value := l.map fun x : Nat => Value.int .i64 (x : Int)

def BestAt (base : Nat) (w : World) (bv : Value) (bb : Option (List Nat)) : Prop :=
  match bb with
  | none => bv = .slice none 0 0
  | some b => ∃ g k, bv = .slice (some ⟨g, 0, none⟩) b.length k ∧ w.ownsRow base 3 1 bv b.length (natCells b)

theorem BestAt.ext {base : Nat} {w w' : World} {bv : Value} {bb : Option (List Nat)} (h : BestAt base w bv bb) (hx : Ext w w') : BestAt base w' bv bb := by
  cases bb with
  | none => exact h
  | some b => obtain ⟨g, k, hv, ho⟩ := h; exact ⟨g, k, hv, own_ext ho hx⟩

theorem own_form {w : World} {base : Nat} {e : TypeId} {size : Nat} {v : Value} {n : Nat} {cs : List Value} (h : w.ownsRow base e size v n cs) (hne : v ≠ .slice none 0 0) : ∃ g k, v = .slice (some ⟨g, 0, none⟩) n k := by
  rcases h.2 with ⟨rfl, _⟩ | ⟨g, cap, cur, rfl, _⟩
  · exact absurd rfl hne
  · exact ⟨g, cap, rfl⟩
theorem natCells_one (l : List Nat) : ∀ u ∈ natCells l, u.oneCell' = true := by
  intro u hu
  obtain ⟨x, _, rfl⟩ := List.mem_map.1 hu
  rfl

theorem ints_of_cells {w : World} {a : Option Addr} {l : List Nat} (h : CellsAt w a (natCells l)) : IntsAt w a (l.map fun x : Nat => (x : Int)) := by
  unfold IntsAt
  rw [List.map_map]
  exact h

theorem compareL_any' (a b : Option Addr) (n m ka kb : Nat) (xs ys : List Int) (w : World) (hn : n = xs.length) (hm : m = ys.length) (hx : IntsAt w a xs) (hy : IntsAt w b ys) (lx : xs.length ≤ 1000000) (ly : ys.length ≤ 1000000) :
    Calls Tryd.prog 41 #[.slice a n ka, .slice b m kb] w fun e w' => e = .returned (.int .i64 (cmpL xs ys)) ∧ w = w' := by
  subst hn
  subst hm
  exact compareL_any a b ka kb xs ys w hx hy lx ly

set_option maxHeartbeats 1000000 in
theorem Cover_any (cv : Value) (C : CaseD) (w : World) (hC : CaseAt w cv C) :
    Calls Tryd.prog 13 #[cv] w fun e w' =>
      (caseOk C = true ∧ alikeL (C.ts.map mask) C.ws.length = [] ∧ ∃ v, e = .returned (.tuple #[v, .int .i64 0]) ∧ w'.ownsRow w.heap.size 3 1 v (coverL (C.ts.map mask) C.ws.length C.ts.length).length (natCells (coverL (C.ts.map mask) C.ws.length C.ts.length)) ∧ Ext w w') ∨
      (caseOk C = true ∧ alikeL (C.ts.map mask) C.ws.length ≠ [] ∧ e = .returned (.tuple #[.slice none 0 0, .int .i64 6]) ∧ Ext w w') ∨
      (caseOk C = false ∧ e = .returned (.tuple #[.slice none 0 0, .int .i64 2]) ∧ Ext w w') := by
  have hC0 := hC
  obtain ⟨aw, kw, at_, kt, ac, kc, rfl, k1, k2, k3, hw, ht, hc⟩ := hC
  have hC1 := hC0.ext (Ext.alloc w (.cells #[.slice aw C.ws.length kw, .slice at_ C.ts.length kt, .slice ac C.cs.length kc] 25))
  have qT : ∀ (w : World) (a : Option Addr) (n c n' c' : Nat), (binOp .eql 22 (.slice a n c) (.slice none n' c')).run Tryd.prog w = .ok (.bool a.isNone) w := fun w a n c n' c' => Lib.run_eql_slice_nil w _ _ a n c n' c' Tryd.underlying22
  go_enter Tryd.func13, Tryd.ntmps13
  go_wp2_with fail
  refine (newTrial_any _ C _ hC1).mono ?_
  rintro e w1 h
  rcases h with ⟨hok, tv, rfl, hT, hx⟩ | ⟨hok, rfl, hx⟩
  · have hx0 := hx.of_alloc
    have HT := hT
    obtain ⟨aw', at', ac', ao', kw', kt', kc', ko', rfl, h1, h2, h3, h4, hw', ht', hc', hu'⟩ := hT
    have hts := caseOk_ts hok
    unfold trialV at HT ⊢
    go_wp2_with fail
    refine (alike_any _ C _ (HT.ext (Ext.alloc _ _)) hok).mono ?_
    rintro e w2 ⟨v, rfl, hown, hx2⟩
    obtain ⟨av, kv, rfl, hkv, hcells⟩ := cells_of_own hown
    have hBT := heap_ext (heap_alloc_new w1 (.cells #[.slice aw' C.ws.length kw', .slice at' C.ts.length kt', .slice ac' C.cs.length kc', .slice ao' C.ts.length ko', .int .u64 ((2 ^ C.ws.length - 1 : Nat) : Int)] 67)) hx2
    obtain ⟨t0, t1, t2, t3, t4⟩ := cells5 hBT
    obtain ⟨A, hA⟩ : ∃ A, (alikeL (C.ts.map mask) C.ws.length).length = A := ⟨_, rfl⟩
    rw [hA]
    have HA := Lib.hid hA
    clear hA
    have hx3 := hx0.trans hx2.of_alloc
    by_cases hA0 : 0 < A
    · go_wp2_with fail
      go_ret2
      refine .inr (.inl ⟨hok, ?_, rfl, hx3⟩)
      intro h
      have := HA.out
      rw [h] at this
      simp at this
      omega
    · have HA0 := Lib.hid hA0
      have HT2 := (HT.ext (Ext.alloc _ _)).ext hx2
      obtain rfl : A = 0 := by omega
      clear hown hcells hx hx2
      obtain ⟨N, hN, hN2⟩ : ∃ N : Nat, 2 ^ C.ts.length = N ∧ N ≤ 4096 := ⟨_, rfl, Nat.le_trans (Nat.pow_le_pow_right (by omega) hts) (by decide)⟩
      have HN := Lib.hid hN
      have hN3 : IntKind.i64.wrap (2 ^ C.ts.length) = (N : Int) := by
        have : ((2 : Int) ^ C.ts.length) = ((2 ^ C.ts.length : Nat) : Int) := by simp
        rw [this, hN, IntKind.wrap_i64]; omega
      clear hN
      go_wp2_with fail
      have HN3 := Lib.hid hN3
      clear hN3
      go_loopw [6, 28] (fun o i wr => ∃ (s : Nat) (bb : Option (List Nat)), s ≤ N ∧ i = .int .i64 s ∧ coverTo (C.ts.map mask) C.ws.length C.ts.length s = bb ∧ BestAt w.heap.size wr o bb ∧
          wr.heap[w1.heap.size]? = some (.cells #[.slice aw' C.ws.length kw', .slice at' C.ts.length kt', .slice ac' C.cs.length kc', .slice ao' C.ts.length ko', .int .u64 ((2 ^ C.ws.length - 1 : Nat) : Int)] 67 (0, 0)) ∧ Ext w2 wr)
        (fun _ i _ => N - (intOf i).toNat)
      case atStart => exact ⟨0, none, Nat.zero_le _, rfl, rfl, rfl, hBT, Ext.refl _⟩
      case round =>
        obtain ⟨s, bb, hs, rfl, hbb, hbest, hBT', hext⟩ := hrel
        have HBB := Lib.hid hbb
        clear hbb
        clear hBT t0 t1 t2 t3 t4
        obtain ⟨t0, t1, t2, t3, t4⟩ := cells5 hBT'
        by_cases hlt : s < N
        · go_wp2_with fail
          go_loopw [8, 34] (fun o i wq => ∃ (m : Nat) (la : Option Addr) (lk : Nat), m ≤ C.ts.length ∧ i = .int .i64 m ∧ o = .slice la (bitsTo s m).length lk ∧ wq.ownsRow wr.heap.size 3 1 (.slice la (bitsTo s m).length lk) (bitsTo s m).length (natCells (bitsTo s m)) ∧ Ext wr wq)
            (fun _ i _ => C.ts.length - (intOf i).toNat)
          case atStart => exact ⟨0, none, 0, Nat.zero_le _, rfl, rfl, World.ownsRow_nil _ _ _ _, Ext.refl _⟩
          case round =>
            rename World => wq
            obtain ⟨m, la, lk, hm, rfl, rfl, hown, hqx⟩ := hrel
            have hml := bitsTo_len s m
            by_cases hltm : m < C.ts.length
            · have hbb := has_bit64 s m (by omega)
              cases hbit : s.testBit m with
              | true =>
                rw [hbit] at hbb
                have hst := bitsTo_step s m
                rw [if_pos hbit] at hst
                have HST := Lib.hid hst
                clear hbit hst
                obtain ⟨i0, hi, hz0, hz1, hz2⟩ := info_parts info_int
                have hqs := hqx.size
                go_wp2_with (at_builtin; refine wpList_append_own _ rfl _ _ 22 rfl wr.heap.size 3 i0 (.int .i64 0) 1 8 Tryd.underlying22 hi hz0 hz1 hz2 rfl (by decide) _ _ _ rfl (hown.alloc _) ⟨wq.heap.size, 0, none⟩ 1 1 [.int .i64 (m : Int)] rfl rfl (World.news_of_block (cs := #[.int .i64 (m : Int)]) (heap_alloc_new wq _)) (by simp [Value.oneCell']) (by unfold maxLen; omega) (by omega) (by simp; omega) ?_)
                intro v' w4 hown4 hgrow _
                have hqx4 := ext_grown hqx hgrow hown (by omega)
                obtain ⟨la', lk', hv', _, _⟩ := cells_of_own hown4
                rw [hv'] at hown4 ⊢
                clear hgrow hown hv'
                go_wp2_with fail
                go_roundw
                case rel =>
                  refine ⟨m + 1, la', lk', by omega, by go_num, by rw [HST.out, List.length_append]; rfl, ?_, hqx4⟩
                  rw [HST.out, List.length_append]
                  simpa [natCells] using hown4
                case measure => simp [intOf]; omega
              | false =>
                rw [hbit] at hbb
                have hst := bitsTo_step s m
                rw [if_neg (by rw [hbit]; decide), List.append_nil] at hst
                have HST := Lib.hid hst
                clear hbit hst
                go_wp2_with fail
                go_roundw
                case rel => exact ⟨m + 1, la, lk, by omega, by go_num, by rw [HST.out], by rw [HST.out]; exact hown, hqx⟩
                case measure => simp [intOf]; omega
            · obtain rfl : m = C.ts.length := by omega
              obtain ⟨_, hlk, hlc⟩ := cells_of_own' hown
              have hli := ints_of_cells hlc
              have hbT := bitsTo_lt s C.ts.length
              have hqT := heap_ext hBT' hqx
              have HB := Lib.hid hbT
              clear t0 t1 t2 t3 t4 hbT
              obtain ⟨t0, t1, t2, t3, t4⟩ := cells5 hqT
              go_wp2_with fail
              refine (divides_any _ C la _ lk (bitsTo s C.ts.length) _ ((HT2.ext hext).ext hqx) hok rfl hli (by omega) HB.out).mono ?_
              rintro e w5 ⟨rfl, hx5⟩
              have hown5 := own_ext hown hx5
              have hli5 := hli.ext hx5
              have hBT5 := heap_ext hqT hx5
              have hext5 := (hext.trans hqx).trans hx5
              have hbest5 := (hbest.ext hqx).ext hx5
              clear hown hli hqT t0 t1 t2 t3 t4 hlc
              have hsz5 := hext5.size
              cases hdv : dividesB (C.ts.map mask) (bitsTo s C.ts.length) C.ws.length with
              | false =>
                have hnx : coverTo (C.ts.map mask) C.ws.length C.ts.length (s + 1) = bb := by rw [coverTo, HBB.out]; unfold better; rw [hdv]; simp
                have HNX := Lib.hid hnx
                clear hnx
                go_wp2_with fail
                go_roundw
                case rel => exact ⟨s + 1, bb, by omega, by go_num, HNX.out, hbest5, hBT5, hext5⟩
                case measure => simp [intOf]; omega
              | true =>
                have HDV := Lib.hid hdv
                clear hdv
                cases bb with
                | none =>
                  have hnx : coverTo (C.ts.map mask) C.ws.length C.ts.length (s + 1) = some (bitsTo s C.ts.length) := by rw [coverTo, HBB.out]; unfold better; rw [HDV.out]; simp [beforeO]
                  have HNX := Lib.hid hnx
                  clear hnx
                  obtain rfl := hbest5
                  obtain ⟨i0, hi, hz0, hz1, hz2⟩ := info_parts info_int
                  have hws := (hx3.trans hext5).size
                  have hlb := heap_lt hBT5
                  go_wp2_with (at_builtin; refine wpList_append_both rfl _ _ 22 rfl w.heap.size 3 i0 (.int .i64 0) 1 8 Tryd.underlying22 hi hz0 hz1 hz2 rfl (by decide) _ 0 [] rfl (World.ownsRow_lit w5 #[] 0 (by omega) (by unfold maxLen; omega) rfl) wr.heap.size _ _ _ rfl (hown5.alloc _) (natCells_one _) (by unfold maxLen; omega) (by omega) (by simp; omega) ?_)
                  intro v' w6 hown6 hgrow hnn
                  have hne : v' ≠ .slice none 0 0 := fun h => by have := hnn h; simp at this
                  obtain ⟨g6, k6, hv6⟩ := own_form hown6 hne
                  have hext6 : Ext w2 w6 := (hext5.trans (Ext.alloc _ _)).grown hgrow (by have := hext5.size; simp; omega) (fun k hk => by simp [Value.ownBlock] at hk; subst hk; have := hext5.size; simp; omega)
                  have hBT6 := (hgrow.block w1.heap.size (by simp; omega) (by simp [Value.ownBlock]; omega)).trans (heap_alloc hBT5)
                  rw [hv6]
                  rw [hv6] at hown6
                  clear hgrow hnn hne hv6
                  go_wp2_with fail
                  go_roundw
                  case rel => exact ⟨s + 1, _, by omega, by go_num, HNX.out, ⟨g6, k6, rfl, hown6⟩, hBT6, hext6⟩
                  case measure => simp [intOf]; omega
                | some bl =>
                  obtain ⟨g, k, rfl, hownb⟩ := hbest5
                  have hlbest : bl.length ≤ 12 := by have := coverTo_len (C.ts.map mask) C.ws.length C.ts.length s bl HBB.out; omega
                  have hlb5 := ints_of_cells (cells_of_own' hownb).2.2
                  have hbl5 : ∀ u ∈ natCells bl, u.oneCell' = true := natCells_one bl
                  go_wp2_with (go_at_call 40; refine (compare_any _ _ _).mono ?_; rintro e w' ⟨rfl, rfl⟩)
                  refine (compareL_any' _ _ _ _ _ _ _ _ _ (by simp) (by simp) hli5 hlb5 (by simp; omega) (by simp; omega)).mono ?_
                  rintro e w' ⟨rfl, rfl⟩
                  obtain ⟨q, hq⟩ : ∃ q, or2 (cmpI ((bitsTo s C.ts.length).length : Int) (bl.length : Int)) (cmpL ((bitsTo s C.ts.length).map fun x : Nat => (x : Int)) (bl.map fun x : Nat => (x : Int))) = q := ⟨_, rfl⟩
                  have HQ := Lib.hid hq
                  go_wp2_with fail
                  refine (or2_any _ _ ⟨w5.heap.size, 0, none⟩ 2 _ (cell_heap (heap_alloc_new w5 _) 0) (cell_heap (heap_alloc_new w5 _) 1)).mono ?_
                  rintro e w7 ⟨rfl, rfl⟩
                  rw [hq]
                  clear hq
                  have hbf : before (bitsTo s C.ts.length) bl = decide (q < 0) := by unfold before; rw [HQ.out]
                  have HBF := Lib.hid hbf
                  clear hbf
                  have hown7 := hown5.alloc (.cells #[.int .i64 (cmpI ((bitsTo s C.ts.length).length : Int) (bl.length : Int)), .int .i64 (cmpL ((bitsTo s C.ts.length).map fun x : Nat => (x : Int)) (bl.map fun x : Nat => (x : Int)))] 3)
                  have hownb7 := hownb.alloc (.cells #[.int .i64 (cmpI ((bitsTo s C.ts.length).length : Int) (bl.length : Int)), .int .i64 (cmpL ((bitsTo s C.ts.length).map fun x : Nat => (x : Int)) (bl.map fun x : Nat => (x : Int)))] 3)
                  have hBT7 := heap_alloc (o' := (.cells #[.int .i64 (cmpI ((bitsTo s C.ts.length).length : Int) (bl.length : Int)), .int .i64 (cmpL ((bitsTo s C.ts.length).map fun x : Nat => (x : Int)) (bl.map fun x : Nat => (x : Int)))] 3)) hBT5
                  have hext7 := hext5.trans (Ext.alloc w5 (.cells #[.int .i64 (cmpI ((bitsTo s C.ts.length).length : Int) (bl.length : Int)), .int .i64 (cmpL ((bitsTo s C.ts.length).map fun x : Nat => (x : Int)) (bl.map fun x : Nat => (x : Int)))] 3))
                  generalize w5.alloc (.cells #[.int .i64 (cmpI ((bitsTo s C.ts.length).length : Int) (bl.length : Int)), .int .i64 (cmpL ((bitsTo s C.ts.length).map fun x : Nat => (x : Int)) (bl.map fun x : Nat => (x : Int)))] 3) = w7 at *
                  have hws := (hx3.trans hext7).size
                  have hlb := heap_lt hBT7
                  have hsz7 := hext7.size
                  by_cases hq0 : q < 0
                  · have hnx : coverTo (C.ts.map mask) C.ws.length C.ts.length (s + 1) = some (bitsTo s C.ts.length) := by rw [coverTo, HBB.out]; unfold better; rw [HDV.out]; simp [beforeO, HBF.out, hq0]
                    have HNX := Lib.hid hnx
                    clear hnx
                    obtain ⟨i0, hi, hz0, hz1, hz2⟩ := info_parts info_int
                    go_wp2_with (at_builtin; refine wpList_append_both rfl _ _ 22 rfl w.heap.size 3 i0 (.int .i64 0) 1 8 Tryd.underlying22 hi hz0 hz1 hz2 rfl (by decide) _ 0 [] rfl (World.ownsRow_lit w7 #[] 0 (by omega) (by unfold maxLen; omega) rfl) wr.heap.size _ _ _ rfl (hown7.alloc _) (natCells_one _) (by unfold maxLen; omega) (by omega) (by simp; omega) ?_)
                    intro v' w6 hown6 hgrow hnn
                    have hne : v' ≠ .slice none 0 0 := fun h => by have := hnn h; simp at this
                    obtain ⟨g6, k6, hv6⟩ := own_form hown6 hne
                    have hext6 : Ext w2 w6 := (hext7.trans (Ext.alloc _ _)).grown hgrow (by have := hext7.size; simp; omega) (fun k hk => by simp [Value.ownBlock] at hk; subst hk; have := hext7.size; simp; omega)
                    have hBT6 := (hgrow.block w1.heap.size (by simp; omega) (by simp [Value.ownBlock]; omega)).trans (heap_alloc hBT7)
                    rw [hv6]
                    rw [hv6] at hown6
                    clear hgrow hnn hne hv6
                    go_wp2_with fail
                    go_roundw
                    case rel => exact ⟨s + 1, _, by omega, by go_num, HNX.out, ⟨g6, k6, rfl, hown6⟩, hBT6, hext6⟩
                    case measure => simp [intOf]; omega
                  · have hnx : coverTo (C.ts.map mask) C.ws.length C.ts.length (s + 1) = some bl := by rw [coverTo, HBB.out]; unfold better; rw [HDV.out]; simp [beforeO, HBF.out]; omega
                    have HNX := Lib.hid hnx
                    clear hnx
                    go_wp2_with fail
                    go_roundw
                    case rel => exact ⟨s + 1, _, by omega, by go_num, HNX.out, ⟨g, k, rfl, hownb7⟩, hBT7, hext7⟩
                    case measure => simp [intOf]; omega
        · obtain rfl : s = N := by omega
          go_wp2_with fail
          go_ret2
          have hnil := List.eq_nil_of_length_eq_zero HA.out
          obtain ⟨bl, hbl⟩ := coverTo_found (C.ts.map mask) C.ws.length hnil
          rw [List.length_map] at hbl
          have hcl : coverL (C.ts.map mask) C.ws.length C.ts.length = bl := by rw [coverL, hbl]; rfl
          have hbb2 : bb = some bl := by rw [← HBB.out, ← HN.out, hbl]
          subst hbb2
          obtain ⟨g, k, rfl, hownb⟩ := hbest
          refine .inl ⟨hok, hnil, _, rfl, ?_, hx3.trans hext⟩
          rw [hcl]
          exact hownb
  · have hx0 := hx.of_alloc
    unfold zeroTrial
    go_wp2_with fail
    go_ret2
    exact .inr (.inr ⟨hok, rfl, hx0.trans (Ext.alloc _ _)⟩)
end Go.Proofs.YtdbendnfgkonbaaDoor
