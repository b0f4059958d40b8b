/- Contract: find, the recursive closure of best. -/
import Derived.Test.YtdbendnfgkonbaaDoorMathB
import Derived.Test.YtdbendnfgkonbaaDoorWeight
import Derived.Test.YtdbendnfgkonbaaDoorIntMaps
namespace Go.Proofs.YtdbendnfgkonbaaDoor
open Go.RowKit
set_option linter.unusedVariables false
set_option linter.unusedSimpArgs false

/-- Every cell that was there holds what it held. -/
def Keeps (w w' : World) : Prop := ∀ b o v, w.cell? ⟨b, o, none⟩ = some v → w'.cell? ⟨b, o, none⟩ = some v
theorem Keeps.of_ext {w w' : World} (h : Ext w w') : Keeps w w' := fun _ _ _ hc => cell_later h hc
theorem Keeps.trans {a b c : World} (h : Keeps a b) (k : Keeps b c) : Keeps a c := fun _ _ _ hc => k _ _ _ (h _ _ _ hc)
theorem Keeps.refl (a : World) : Keeps a a := fun _ _ _ hc => hc
theorem CellsAt.keeps {w w' : World} {a : Option Addr} {cs : List Value} (h : CellsAt w a cs) (hb : Keeps w w') : CellsAt w' a cs := by
  intro i x hx
  obtain ⟨b, off, ha, hc⟩ := h i x hx
  exact ⟨b, off, ha, hb _ _ _ hc⟩
theorem IntsAt.keeps {w w' : World} {a : Option Addr} {xs : List Int} (h : IntsAt w a xs) (hb : Keeps w w') : IntsAt w' a xs := CellsAt.keeps h hb
theorem UintsAt.keeps {w w' : World} {a : Option Addr} {xs : List Nat} (h : UintsAt w a xs) (hb : Keeps w w') : UintsAt w' a xs := CellsAt.keeps h hb
theorem RowsAt.keeps {w w' : World} {a : Option Addr} {xss : List (List Int)} (h : RowsAt w a xss) (hb : Keeps w w') : RowsAt w' a xss := by
  intro i x hx
  obtain ⟨b, off, a', k, ha, hc, hk, hi⟩ := h i x hx
  exact ⟨b, off, a', k, ha, hb _ _ _ hc, hk, hi.keeps hb⟩
theorem TrialAt.keeps {w w' : World} {v : Value} {C : CaseD} (h : TrialAt w v C) (hb : Keeps w w') : TrialAt w' v C := by
  obtain ⟨aw, at_, ac, ao, kw, kt, kc, ko, hv, h1, h2, h3, h4, h5, h6, h7, h8⟩ := h
  exact ⟨aw, at_, ac, ao, kw, kt, kc, ko, hv, h1, h2, h3, h4, h5.keeps hb, h6.keeps hb, h7.keeps hb, h8.keeps hb⟩
theorem CaseAt.keeps {w w' : World} {v : Value} {C : CaseD} (h : CaseAt w v C) (hb : Keeps w w') : CaseAt w' v C := by
  obtain ⟨aw, kw, at_, kt, ac, kc, hv, h1, h2, h3, h4, h5, h6⟩ := h
  exact ⟨aw, kw, at_, kt, ac, kc, hv, h1, h2, h3, h4.keeps hb, h5.keeps hb, h6.keeps hb⟩
theorem grown_ext {w w' : World} (h : Ext w w') (r : Option Nat) : w.grownBy w' r := ⟨h.os, h.tape, h.output, h.size, fun k hk _ => h.block k hk⟩
theorem map_heap {w w' : World} {g : Nat} {q : IntKind} {M : List (Int × Value)} (hm : MapAt w g q M) (h : w.grownBy w' (some g)) {b : Nat} {cs : Array Value} {t : TypeId} {fr : Nat × Nat} (hc : w.heap[b]? = some (.cells cs t fr)) : w'.heap[b]? = some (.cells cs t fr) := by
  obtain ⟨es, clock, hb, _⟩ := hm
  refine (h.block b (heap_lt hc) fun e => ?_).trans hc
  cases e
  rw [hb] at hc
  cases hc
theorem map_keeps {w w' : World} {g : Nat} {q : IntKind} {M : List (Int × Value)} (hm : MapAt w g q M) (h : w.grownBy w' (some g)) : Keeps w w' := by
  intro b o v hc
  obtain ⟨es, clock, hb, _⟩ := hm
  have hne : b ≠ g := by
    rintro rfl
    simp [World.cell?, hb] at hc
  have hblk := h.block b (lt_of_cell hc) fun e => hne (by cases e; rfl)
  have : w'.cell? ⟨b, o, none⟩ = w.cell? ⟨b, o, none⟩ := by simp [World.cell?, hblk]
  exact this.trans hc

theorem cells2 {w : World} {b : Nat} {x0 x1 : Value} {t : TypeId} {fr : Nat × Nat} (h : w.heap[b]? = some (.cells #[x0, x1] t fr)) : w.cell? ⟨b, 0, none⟩ = some x0 ∧ w.cell? ⟨b, 1, none⟩ = some x1 := ⟨cell_heap h 0, cell_heap h 1⟩

theorem set2_heap {w : World} {b : Nat} {x0 x1 : Value} {t : TypeId} {fr : Nat × Nat} (u v : Value) (h : w.heap[b]? = some (.cells #[x0, x1] t fr)) : ((w.setCell ⟨b, 0, none⟩ u).setCell ⟨b, 1, none⟩ v).heap[b]? = some (.cells #[u, v] t fr) := by
  obtain ⟨hb, hbe⟩ := Array.getElem?_eq_some_iff.1 h
  simp [World.setCell, h, hb, Array.getElem_modify, hbe]

/-- What a call of find stands in. -/
structure FEnv where
  C : CaseD
  m : Meas
  mf : Nat
  aw : Option Addr
  at_ : Option Addr
  ac : Option Addr
  ao : Option Addr
  kw : Nat
  kt : Nat
  kc : Nat
  ko : Nat
  Bo : Nat
  Bt : Nat
  Bm : Nat
  Bf : Nat
  g : Nat

def FEnv.tv (E : FEnv) : Value := trialV E.aw E.at_ E.ac E.ao E.C.ws.length E.kw E.C.ts.length E.kt E.C.cs.length E.kc E.C.ts.length E.ko (2 ^ E.C.ws.length - 1)
def FEnv.ones (E : FEnv) : List Nat := E.C.ts.map mask

def chV (x : Int × Int) : Value := .agg #[.int .i64 x.1, .int .i64 x.2]
def InM (M : List (Int × Value)) (p : Nat) : Prop := pop p = 1 ∨ (lookM M (p : Int)).isSome = true
def MoreM (M M' : List (Int × Value)) : Prop := ∀ p : Nat, (lookM M (p : Int)).isSome = true → (lookM M' (p : Int)).isSome = true
theorem MoreM.refl (M : List (Int × Value)) : MoreM M M := fun _ h => h
theorem MoreM.trans {A B D : List (Int × Value)} (h : MoreM A B) (k : MoreM B D) : MoreM A D := fun p hp => k p (h p hp)
theorem InM.more {M M' : List (Int × Value)} (h : MoreM M M') {p : Nat} (hp : InM M p) : InM M' p := hp.imp id (h p)
def GoodM (m : Meas) (ones : List Nat) (n : Nat) (M : List (Int × Value)) : Prop :=
  ∀ (s : Nat) v, lookM M (s : Int) = some v → s < 2 ^ n ∧ v = chV (choice m ones s) ∧ ∀ k, k < ones.length → splits (ones.getD k 0) s = true → InM M (s &&& ones.getD k 0) ∧ InM M (sdiff s (ones.getD k 0))

theorem MoreM.ups (M : List (Int × Value)) (s : Nat) (v : Value) : MoreM M (upsM M (s : Int) v) := fun p hp => by
  rw [lookM_ups]
  split
  · rfl
  · exact hp
theorem GoodM.ups {m : Meas} {ones : List Nat} {n s : Nat} {M : List (Int × Value)} (hG : GoodM m ones n M) (hs : s < 2 ^ n) (hp : ∀ j, j < ones.length → splits (ones.getD j 0) s = true → InM M (s &&& ones.getD j 0) ∧ InM M (sdiff s (ones.getD j 0))) :
    GoodM m ones n (upsM M (s : Int) (chV (choice m ones s))) := by
  have hmore := MoreM.ups M s (chV (choice m ones s))
  intro p v hv
  rw [lookM_ups] at hv
  by_cases he : (p : Int) = (s : Int)
  · rw [if_pos he] at hv
    have he' : p = s := by omega
    subst he'
    cases hv
    exact ⟨hs, rfl, fun k hk h => ⟨((hp k hk h).1).more hmore, ((hp k hk h).2).more hmore⟩⟩
  · rw [if_neg he] at hv
    obtain ⟨h1, h2, h3⟩ := hG p v hv
    exact ⟨h1, h2, fun k hk h => ⟨((h3 k hk h).1).more hmore, ((h3 k hk h).2).more hmore⟩⟩

structure FIn (E : FEnv) (w : World) (M : List (Int × Value)) : Prop where
  trial : TrialAt w E.tv E.C
  ones : UintsAt w E.ao E.ones
  bo : w.heap[E.Bo]? = some (.cells #[.map (some E.g)] 93 (0, 0))
  bt : w.heap[E.Bt]? = some (.cells #[.slice E.aw E.C.ws.length E.kw, .slice E.at_ E.C.ts.length E.kt, .slice E.ac E.C.cs.length E.kc, .slice E.ao E.C.ts.length E.ko, .int .u64 ((2 ^ E.C.ws.length - 1 : Nat) : Int)] 67 (0, 0))
  bm : w.heap[E.Bm]? = some (.cells #[.func (.func E.mf) #[] #[]] 92 (0, 0))
  bf : w.heap[E.Bf]? = some (.cells #[.func (.func 73) #[] #[.pointer (some ⟨E.Bo, 0, none⟩), .pointer (some ⟨E.Bt, 0, none⟩), .pointer (some ⟨E.Bm, 0, none⟩), .pointer (some ⟨E.Bf, 0, none⟩)]] 72 (0, 0))
  map : MapAt w E.g .u64 M
  good : GoodM E.m E.ones E.C.ws.length M

theorem FIn.ext {E : FEnv} {w w' : World} {M : List (Int × Value)} (h : FIn E w M) (hb : Ext w w') : FIn E w' M :=
  ⟨h.trial.ext hb, h.ones.ext hb, heap_ext h.bo hb, heap_ext h.bt hb, heap_ext h.bm hb, heap_ext h.bf hb, h.map.ext hb, h.good⟩
theorem FIn.grown {E : FEnv} {w w' : World} {M M' : List (Int × Value)} (h : FIn E w M) (hg : w.grownBy w' (some E.g)) (hm : MapAt w' E.g .u64 M') (hG : GoodM E.m E.ones E.C.ws.length M') : FIn E w' M' :=
  have hk := map_keeps h.map hg
  ⟨h.trial.keeps hk, h.ones.keeps hk, map_heap h.map hg h.bo, map_heap h.map hg h.bt, map_heap h.map hg h.bm, map_heap h.map hg h.bf, hm, hG⟩

/-- What find leaves behind. -/
structure FRes (E : FEnv) (w : World) (M : List (Int × Value)) (w' : World) (M' : List (Int × Value)) (s : Nat) : Prop where
  inn : FIn E w' M'
  more : MoreM M M'
  mem : InM M' s
  grown : w.grownBy w' (some E.g)
  keeps : Keeps w w'
  heap : ∀ (b : Nat) (cs : Array Value) (t : TypeId) (fr : Nat × Nat), w.heap[b]? = some (Obj.cells cs t fr) → w'.heap[b]? = some (Obj.cells cs t fr)

/-- A measure's function. -/
structure MeasC (C : CaseD) (m : Meas) (mf : Nat) : Prop where
  enter : ∀ args w, (callFunc mf args).run Tryd.prog w = .ok (.enter mf args) w
  call : ∀ (tv : Value) (k s : Nat) (zero one : Int) (w : World), TrialAt w tv C → k < C.ts.length → s < 1024 → 0 ≤ zero ∧ zero ≤ 1000000000 → 0 ≤ one ∧ one ≤ 1000000000 →
    Calls Tryd.prog mf #[tv, .int .i64 (k : Int), .int .u64 (s : Int), .int .i64 zero, .int .i64 one] w fun e w' => e = .returned (.int .i64 (m k s zero one)) ∧ Ext w w'
  tame : Tame m (C.ts.map mask) C.ws.length

theorem enter_find (args : Array Value) (w : World) : (callFunc 73 args).run Tryd.prog w = .ok (.enter 73 args) w := by rfl

theorem zero_choice (w : World) : (zeroValue 96).run Tryd.prog w = .ok (.agg #[.int .i64 0, .int .i64 0]) w := by kernel_rfl

theorem FRes.same {E : FEnv} {w w' : World} {M : List (Int × Value)} {s : Nat} (h : FIn E w M) (hb : Ext w w') (hs : InM M s) : FRes E w M w' M s :=
  ⟨h.ext hb, MoreM.refl _, hs, grown_ext hb _, Keeps.of_ext hb, fun _ _ _ _ hc => heap_ext hc hb⟩

/-- find's loop: what stands at round k, in world wr. -/
structure FMid (E : FEnv) (w : World) (M : List (Int × Value)) (s k : Nat) (wr : World) (M' : List (Int × Value)) : Prop where
  map : MapAt wr E.g .u64 M'
  good : GoodM E.m E.ones E.C.ws.length M'
  more : MoreM M M'
  grown : w.grownBy wr (some E.g)
  parts : ∀ j, j < k → splits (E.ones.getD j 0) s = true → InM M' (s &&& E.ones.getD j 0) ∧ InM M' (sdiff s (E.ones.getD j 0))
theorem FMid.inn {E : FEnv} {w wr : World} {M M' : List (Int × Value)} {s k : Nat} (h : FMid E w M s k wr M') (h0 : FIn E w M) : FIn E wr M' := h0.grown h.grown h.map h.good

theorem grown_drew' (w : World) (r : Option Nat) : w.grownBy w.drew r := grown_ext (Ext.drew w) r
theorem FMid.next {E : FEnv} {w wr wA wB wC : World} {M M' MA MB : List (Int × Value)} {s k x y z : Nat} (h : FMid E w M s k wr M') (hA : FRes E wr.drew M' wA MA z) (hB : FRes E wA MA wB MB y) (hC : Ext wB wC)
    (hx : E.ones.getD k 0 = x) (hy : s &&& x = y) (hz : sdiff s x = z) : FMid E w M s (k + 1) wC MB := by
  refine ⟨hB.inn.map.ext hC, hB.inn.good, (h.more.trans hA.more).trans hB.more, h.grown.trans ((grown_drew' _ _).trans (hA.grown.trans (hB.grown.trans (grown_ext hC _)))), fun j hj hs => ?_⟩
  rcases Nat.lt_or_eq_of_le (Nat.le_of_lt_succ hj) with h' | rfl
  · have := h.parts j h' hs
    exact ⟨(this.1.more hA.more).more hB.more, (this.2.more hA.more).more hB.more⟩
  · rw [hx, hy, hz]
    exact ⟨hB.mem, hA.mem.more hB.more⟩
theorem FMid.set {E : FEnv} {w wr : World} {M M' : List (Int × Value)} {s k B o : Nat} {v : Value} (h : FMid E w M s k wr M') (hB : w.heap.size ≤ B) (hg : E.g < w.heap.size) : FMid E w M s k (wr.setCell ⟨B, o, none⟩ v) M' := by
  refine ⟨h.map.block ?_, h.good, h.more, ?_, h.parts⟩
  · exact heap_setCell_other wr ⟨B, o, none⟩ E.g v (by simp; omega)
  · refine ⟨h.grown.os, h.grown.tape, h.grown.output, ?_, fun b hb hne => ?_⟩
    · have := h.grown.size; simpa using this
    · refine (heap_setCell_other wr ⟨B, o, none⟩ b v (by simp; omega)).trans (h.grown.block b hb hne)

set_option maxRecDepth 4000 in
set_option maxHeartbeats 4000000 in
theorem find_any (E : FEnv) (hM : MeasC E.C E.m E.mf) (hok : caseOk E.C = true) : ∀ (N s : Nat) (M : List (Int × Value)) (w : World), pop s ≤ N → s < 2 ^ E.C.ws.length → s ≠ 0 → FIn E w M →
    Calls Tryd.prog 73 #[.int .u64 (s : Int), .pointer (some ⟨E.Bo, 0, none⟩), .pointer (some ⟨E.Bt, 0, none⟩), .pointer (some ⟨E.Bm, 0, none⟩), .pointer (some ⟨E.Bf, 0, none⟩)] w
      fun e w' => ∃ M', e = .returned (.int .i64 (cost E.m E.ones s)) ∧ FRes E w M w' M' s := by
  have hn := caseOk_n hok
  have hts := caseOk_ts hok
  intro N
  induction N with
  | zero =>
    intro s M w hp hs h0 hin
    have h1 : s < 1024 := Nat.lt_of_lt_of_le hs (Nat.le_trans (Nat.pow_le_pow_right (by omega) hn.2) (by decide : 2 ^ 10 ≤ 1024))
    have := pop_pos h1 h0
    omega
  | succ N ih =>
    intro s M w hp hs h0 hin
    have h1 : s < 1024 := Nat.lt_of_lt_of_le hs (Nat.le_trans (Nat.pow_le_pow_right (by omega) hn.2) (by decide : 2 ^ 10 ≤ 1024))
    have hce := cost_eq E.m E.ones s h1
    by_cases hp1 : pop s = 1
    · have hpi : (pop s : Int) = 1 := by omega
      rw [if_pos hp1] at hce
      have HCE := Lib.hid hce
      clear hce ih
      go_enter Tryd.func73, Tryd.ntmps73
      go_wp2_with (go_at_call 61; refine (onesCount_any s _ h1).mono ?_; rintro e w' ⟨rfl, rfl⟩)
      go_ret
      exact ⟨M, ret_eq (by rw [HCE.out]; rfl), FRes.same hin (Ext.refl _) (.inl hp1)⟩
    · have hpi : ((pop s : Int) == 1) = false := by simp; omega
      obtain ⟨ao, hao⟩ : ∃ a, E.ao = a := ⟨_, rfl⟩
      have HAO := Lib.hid hao
      clear hao
      rw [if_neg hp1] at hce
      have HCE := Lib.hid hce
      have HIH := Lib.hid ih
      have co := cells1 hin.bo
      have HIN := Lib.hid hin
      have hlook := run_lookup_ok_at (w := w) Tryd.underlying93 Tryd.underlying65 hin.map (zero_choice w) (s : Int)
      clear hce ih
      cases hlk : lookM M (s : Int) with
      | some v =>
        obtain ⟨_, rfl, _⟩ := hin.good s v hlk
        rw [hlk] at hlook
        have hmem : InM M s := .inr (by rw [hlk]; rfl)
        have HLK := Lib.hid hlk
        clear hlk hin
        simp only [Option.getD_some, Option.isSome_some, chV] at hlook
        go_enter Tryd.func73, Tryd.ntmps73
        go_wp2_with (go_at_call 61; refine (onesCount_any s _ h1).mono ?_; rintro e w' ⟨rfl, rfl⟩)
        go_ret
        exact ⟨M, ret_eq (by rw [HCE.out]; rfl), FRes.same HIN.out (Ext.alloc _ _) hmem⟩
      | none =>
        rw [hlk] at hlook
        have HLK := Lib.hid hlk
        clear hlk hin
        simp only [Option.getD_none, Option.isSome_none] at hlook
        have hA : ∀ o1 o2, ((w.alloc o1).alloc o2).cell? ⟨E.Bt, 3, none⟩ = some (.slice ao E.C.ts.length E.ko) := fun o1 o2 => HAO.out ▸ cell_later ((Ext.alloc _ _).trans (Ext.alloc _ _)) (cells5 HIN.out.bt).2.2.2.1
        go_enter Tryd.func73, Tryd.ntmps73
        go_wp2_with (go_at_call 61; refine (onesCount_any s _ h1).mono ?_; rintro e w' ⟨rfl, rfl⟩)
        go_loopw [29] (fun i wr => ∃ (k : Nat) (M' : List (Int × Value)), k ≤ E.C.ts.length ∧ i = .int .i64 k ∧ FMid E w M s k wr M' ∧ wr.heap[w.heap.size + 1]? = some (.cells #[.int .i64 (stepCh E.m E.ones (cost E.m E.ones) s k).1, .int .i64 (stepCh E.m E.ones (cost E.m E.ones) s k).2] 96 (0, 0))) (fun i _ => E.C.ts.length - (intOf i).toNat)
        case atStart =>
          have hx : Ext w ((w.alloc (Obj.cells #[.int .i64 0, .int .i64 0] 96)).alloc (Obj.cells #[.int .i64 (-1), .int .i64 0] 96)) := (Ext.alloc _ _).trans (Ext.alloc _ _)
          refine ⟨0, M, Nat.zero_le _, rfl, ⟨HIN.out.map.ext hx, HIN.out.good, MoreM.refl _, grown_ext hx _, fun j hj => by omega⟩, ?_⟩
          have := heap_alloc_new (w.alloc (Obj.cells #[.int .i64 0, .int .i64 0] 96)) (Obj.cells #[.int .i64 (-1), .int .i64 0] 96)
          rw [wsize_alloc] at this
          exact this
        case round =>
          obtain ⟨k, M', hk, rfl, hl, hleast⟩ := hrel
          have hinn := hl.inn HIN.out
          by_cases hlt : k < E.C.ts.length
          · have hones := hinn.ones
            rw [HAO.out] at hones
            obtain ⟨b, off, x, rfl, cx, hxk⟩ := hones.get (i := k) (by simpa [FEnv.ones] using hlt)
            have hgx : E.ones.getD k 0 = x := by simp only [List.getD, hxk.out]; rfl
            have hxl : x < 1024 := by
              obtain ⟨r, hr, rfl⟩ := List.mem_map.1 (List.mem_of_getElem? hxk.out)
              exact Nat.lt_of_lt_of_le (mask_lt hok hr) (Nat.le_trans (Nat.pow_le_pow_right (by omega) hn.2) (by decide : 2 ^ 10 ≤ 1024))
            have b1 := bits_and_u64 s x (by omega) (by omega)
            have b2 := bits_not_u64 s x (by omega) (by omega)
            have hyl := and_lt (o := x) hs
            have hzl := sdiff_lt (o := x) hs
            cases hsp : splits x s with
            | false =>
              have hnx : stepCh E.m E.ones (cost E.m E.ones) s (k + 1) = stepCh E.m E.ones (cost E.m E.ones) s k := by
                simp only [stepCh]
                rw [hgx, if_neg (by rw [hsp]; decide)]
              have hparts : ∀ j, j < k + 1 → splits (E.ones.getD j 0) s = true → InM M' (s &&& E.ones.getD j 0) ∧ InM M' (sdiff s (E.ones.getD j 0)) := by
                intro j hj hsj
                rcases Nat.lt_or_eq_of_le (Nat.le_of_lt_succ hj) with h | rfl
                · exact hl.parts j h hsj
                · rw [hgx, hsp] at hsj; cases hsj
              rw [← hnx] at hleast
              have HN : FMid E w M s (k + 1) wr M' := ⟨hl.map, hl.good, hl.more, hl.grown, hparts⟩
              have HLL := Lib.hid hleast
              have HSP := Lib.hid hsp
              have HHH := Lib.hid HN
              clear hnx hparts hleast hgx HN hl hsp hinn
              by_cases hy0 : s &&& x = 0
              · rw [hy0] at b1
                clear b2
                go_wp2_with fail
                go_roundw
                case rel => exact ⟨k + 1, M', by omega, by go_num, HHH.out, HLL.out⟩
                case measure => simp [intOf]; omega
              · have hz0 : sdiff s x = 0 := by
                  have := HSP.out
                  simp only [splits] at this
                  simp_all
                rw [hz0] at b2
                have hy1 : ((s &&& x : Nat) : Int) ≠ 0 := by omega
                obtain ⟨y, hy⟩ : ∃ y, s &&& x = y := ⟨_, rfl⟩
                rw [hy] at b1 hy1
                have hy2 : y ≠ 0 := by omega
                clear hy0 hyl hy HSP
                go_wp2_with fail
                go_roundw
                case rel => exact ⟨k + 1, M', by omega, by go_num, HHH.out, HLL.out⟩
                case measure => simp [intOf]; omega
            | true =>
              obtain ⟨py, pz, qy, qz⟩ := splits_parts h1 hsp
              obtain ⟨t0, t1, t2, t3, t4⟩ := cells5 hinn.bt
              have tm := cells1 hinn.bm
              have tf := cells1 hinn.bf
              have hnx : stepCh E.m E.ones (cost E.m E.ones) s (k + 1) = if (stepCh E.m E.ones (cost E.m E.ones) s k).1 < 0 ∨ E.m k s (cost E.m E.ones (sdiff s x)) (cost E.m E.ones (s &&& x)) < (stepCh E.m E.ones (cost E.m E.ones) s k).2 then ((k : Int), E.m k s (cost E.m E.ones (sdiff s x)) (cost E.m E.ones (s &&& x))) else stepCh E.m E.ones (cost E.m E.ones) s k := by
                conv => lhs; rw [stepCh]
                dsimp only
                rw [hgx, if_pos hsp]
              have HNX := Lib.hid hnx
              have HL := Lib.hid hl
              have HINN := Lib.hid hinn
              have HGX := Lib.hid hgx
              have HCZ := Lib.hid (cost_bd E.m E.ones E.C.ws.length hn.2 hM.tame 10 (sdiff s x) (pop_le _) hzl pz)
              have HCY := Lib.hid (cost_bd E.m E.ones E.C.ws.length hn.2 hM.tame 10 (s &&& x) (pop_le _) hyl py)
              have hpy := pop_le (s &&& x)
              have hpz := pop_le (sdiff s x)
              have HSP := Lib.hid hsp
              clear hnx hl hgx hsp hones hinn
              rw [HAO.out] at t3
              obtain ⟨y, hy⟩ : ∃ y, s &&& x = y := ⟨_, rfl⟩
              obtain ⟨z, hz⟩ : ∃ z, sdiff s x = z := ⟨_, rfl⟩
              have HY := Lib.hid hy
              have HZ := Lib.hid hz
              rw [hy] at b1 py qy HCY hpy hyl
              rw [hz] at b2 pz qz HCZ hpz hzl
              rw [hy, hz] at HNX
              clear hy hz
              have hyb : ((y : Int) == 0) = false := by simp; omega
              have hzb : ((z : Int) == 0) = false := by simp; omega
              have hent := hM.enter
              have htv : E.tv = .agg #[.slice E.aw E.C.ws.length E.kw, .slice E.at_ E.C.ts.length E.kt, .slice E.ac E.C.cs.length E.kc, .slice (some ⟨b, off, none⟩) E.C.ts.length E.ko, .int .u64 ((2 ^ E.C.ws.length - 1 : Nat) : Int)] := by
                unfold FEnv.tv trialV
                rw [HAO.out]
              have HTV := Lib.hid htv
              clear htv
              have hyN : pop y ≤ N := by omega
              have hzN : pop z ≤ N := by omega
              have hbz : 0 ≤ cost E.m E.ones z ∧ cost E.m E.ones z ≤ 1000000000 := by have := HCZ.out; omega
              have hby : 0 ≤ cost E.m E.ones y ∧ cost E.m E.ones y ≤ 1000000000 := by have := HCY.out; omega
              go_wp2_with fail
              go_region_held3 (fun w' => w'.cell? ⟨E.Bt, 0, none⟩ = some (.slice E.aw E.C.ws.length E.kw) ∧ w'.cell? ⟨E.Bt, 1, none⟩ = some (.slice E.at_ E.C.ts.length E.kt) ∧ w'.cell? ⟨E.Bt, 2, none⟩ = some (.slice E.ac E.C.cs.length E.kc) ∧
                  w'.cell? ⟨E.Bt, 3, none⟩ = some (.slice (some ⟨b, off, none⟩) E.C.ts.length E.ko) ∧ w'.cell? ⟨E.Bt, 4, none⟩ = some (.int .u64 ((2 ^ E.C.ws.length - 1 : Nat) : Int)) ∧
                  w'.cell? ⟨E.Bm, 0, none⟩ = some (.func (.func E.mf) #[] #[]) ∧ w'.cell? ⟨E.Bf, 0, none⟩ = some (.func (.func 73) #[] #[.pointer (some ⟨E.Bo, 0, none⟩), .pointer (some ⟨E.Bt, 0, none⟩), .pointer (some ⟨E.Bm, 0, none⟩), .pointer (some ⟨E.Bf, 0, none⟩)]))
                (first | exact ⟨cell_later hC (hB.keeps _ _ _ (hA.keeps _ _ _ t0)), cell_later hC (hB.keeps _ _ _ (hA.keeps _ _ _ t1)), cell_later hC (hB.keeps _ _ _ (hA.keeps _ _ _ t2)), cell_later hC (hB.keeps _ _ _ (hA.keeps _ _ _ t3)), cell_later hC (hB.keeps _ _ _ (hA.keeps _ _ _ t4)), cell_later hC (hB.keeps _ _ _ (hA.keeps _ _ _ tm)), cell_later hC (hB.keeps _ _ _ (hA.keeps _ _ _ tf))⟩ | exact ⟨hB.keeps _ _ _ (hA.keeps _ _ _ t0), hB.keeps _ _ _ (hA.keeps _ _ _ t1), hB.keeps _ _ _ (hA.keeps _ _ _ t2), hB.keeps _ _ _ (hA.keeps _ _ _ t3), hB.keeps _ _ _ (hA.keeps _ _ _ t4), hB.keeps _ _ _ (hA.keeps _ _ _ tm), hB.keeps _ _ _ (hA.keeps _ _ _ tf)⟩ | exact ⟨hA.keeps _ _ _ t0, hA.keeps _ _ _ t1, hA.keeps _ _ _ t2, hA.keeps _ _ _ t3, hA.keeps _ _ _ t4, hA.keeps _ _ _ tm, hA.keeps _ _ _ tf⟩ | exact ⟨t0, t1, t2, t3, t4, tm, tf⟩)
                (first
                  | (go_at_call 73; refine (HIH.out y MA wA hyN hyl py hA.inn).mono ?_; rintro e wB ⟨MB, rfl, hB⟩)
                  | (go_at_call 73; refine (HIH.out z M' _ hzN hzl pz (HINN.out.ext (Ext.drew _))).mono ?_; rintro e wA ⟨MA, rfl, hA⟩)
                  | (with_reducible apply Calls.mono; exact hM.call _ k s _ _ _ (HTV.out ▸ hB.inn.trial) (by omega) h1 hbz hby; rintro e wC ⟨rfl, hC⟩))
              have hBL := heap_ext (hB.heap _ _ _ _ (hA.heap _ _ _ _ hleast)) hC
              have hMid := HL.out.next hA hB hC HGX.out HY.out HZ.out
              have HMID := Lib.hid hMid
              have hnx := HNX.out
              have hgl := HIN.out.map.lt
              obtain ⟨c, hc⟩ : ∃ c, E.m k s (cost E.m E.ones z) (cost E.m E.ones y) = c := ⟨_, rfl⟩
              rw [hc] at hnx
              rw [hc]
              obtain ⟨st, hst⟩ : ∃ st, stepCh E.m E.ones (cost E.m E.ones) s k = st := ⟨_, rfl⟩
              rw [hst] at hnx hBL
              obtain ⟨l1, l2⟩ := st
              dsimp only at hnx hBL
              obtain ⟨d0, d1⟩ := cells2 hBL
              have df := free_heap hBL
              have HBL := Lib.hid hBL
              rename_i hHeld
              clear hHeld hMid hc hst hBL hleast t0 t1 t2 t3 t4 tm tf cx
              by_cases hl10 : l1 < 0
              · rw [if_pos (.inl hl10)] at hnx
                have HNX2 := Lib.hid hnx
                clear hnx
                go_wp2_with fail
                go_roundw
                case rel => exact ⟨k + 1, MB, by omega, by go_num, (HMID.out.set (by omega) hgl).set (by omega) hgl, by rw [HNX2.out]; exact set2_heap _ _ HBL.out⟩
                case measure => simp [intOf]; omega
              · by_cases hl20 : c < l2
                · rw [if_pos (.inr hl20)] at hnx
                  have HNX2 := Lib.hid hnx
                  clear hnx
                  go_wp2_with fail
                  go_roundw
                  case rel => exact ⟨k + 1, MB, by omega, by go_num, (HMID.out.set (by omega) hgl).set (by omega) hgl, by rw [HNX2.out]; exact set2_heap _ _ HBL.out⟩
                  case measure => simp [intOf]; omega
                · rw [if_neg (by omega)] at hnx
                  have HNX2 := Lib.hid hnx
                  clear hnx
                  go_wp2_with fail
                  go_roundw
                  case rel => exact ⟨k + 1, MB, by omega, by go_num, HMID.out, by rw [HNX2.out]; exact HBL.out⟩
                  case measure => simp [intOf]; omega
          · obtain rfl : k = E.C.ts.length := by omega
            have hch : stepCh E.m E.ones (cost E.m E.ones) s E.C.ts.length = choice E.m E.ones s := by unfold choice FEnv.ones; rw [List.length_map]
            rw [hch] at hleast
            obtain ⟨ch, hce⟩ : ∃ ch, choice E.m E.ones s = ch := ⟨_, rfl⟩
            rw [hce] at hleast
            have HCH := Lib.hid hce
            obtain ⟨l1, l2⟩ := ch
            dsimp only at hleast
            obtain ⟨d0, d1⟩ := cells2 hleast
            have co := cells1 hinn.bo
            have HINN := Lib.hid hinn
            have HL := Lib.hid hl
            have HLE := Lib.hid hleast
            clear hch hce hinn hl hleast
            go_wp2_with (at_mapUpdate; refine wpList_update_int _ rfl _ _ _ 93 rfl 65 96 .u64 Tryd.underlying93 Tryd.underlying65 E.g M' rfl HL.out.map (s : Int) (chV (l1, l2)) rfl rfl ?_)
            intro w' hm' hg'
            have d1' := map_keeps HL.out.map hg' _ _ _ d1
            have HM := Lib.hid hm'
            clear hm' co d0 d1
            go_wp2_with fail
            go_ret
            rw [← HCH.out] at HM
            have hmore : MoreM M' (upsM M' (s : Int) (chV (choice E.m E.ones s))) := MoreM.ups M' s _
            refine ⟨_, ret_eq (by rw [HCE.out, HCH.out]; rfl), HIN.out.grown (HL.out.grown.trans hg') HM.out (HL.out.good.ups hs fun j hj => HL.out.parts j (by rw [FEnv.ones, List.length_map] at hj; exact hj)), HL.out.more.trans hmore, .inr ?_, HL.out.grown.trans hg', map_keeps HIN.out.map (HL.out.grown.trans hg'), fun b cs t fr hc => map_heap HIN.out.map (HL.out.grown.trans hg') hc⟩
            rw [lookM_ups, if_pos rfl]
            rfl
end Go.Proofs.YtdbendnfgkonbaaDoor
