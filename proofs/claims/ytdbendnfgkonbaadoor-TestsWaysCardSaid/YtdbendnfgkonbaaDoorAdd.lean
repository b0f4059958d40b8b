/- Contracts: add, the recursive closure of plan. -/
import Derived.Test.YtdbendnfgkonbaaDoorPlanA
import Derived.Deep.RegionLaw
import Derived.Deep.AppendLies
import Derived.Laws.OwnMore
namespace Go.Proofs.YtdbendnfgkonbaaDoor
open Go.RowKit
set_option linter.unusedVariables false
set_option linter.unusedSimpArgs false

/-- What a call of add stands in: w0 is the world at the beginning of plan. -/
structure PEnv where
  C : CaseD
  sf : Nat
  cap : Array Value
  sel : Nat → Nat
  dom : Nat → Prop
  aw : Option Addr
  at_ : Option Addr
  ac : Option Addr
  ao : Option Addr
  kw : Nat
  kt : Nat
  kc : Nat
  ko : Nat
  w0 : World

def PEnv.B (E : PEnv) : Nat := E.w0.heap.size
def PEnv.ones (E : PEnv) : List Nat := E.C.ts.map mask

structure POk (E : PEnv) : Prop where
  hu : UintsAt E.w0 E.ao E.ones
  tab : TabAt E.w0
  enter : ∀ args w, (callFunc E.sf args).run Tryd.prog w = .ok (.enter E.sf args) w
  call : ∀ (s : Nat) w, Ext E.w0 w → E.dom s → s < 2 ^ E.C.ws.length → s ≠ 0 → pop s ≠ 1 → Calls Tryd.prog E.sf (#[.int .u64 (s : Int)] ++ E.cap) w fun e w' => e = .returned (.int .i64 (E.sel s : Int)) ∧ Ext w w'
  sel : SelOk E.ones E.C.ws.length E.sel E.dom

structure PIn (E : PEnv) (w : World) (l : List NodeD) (a : Option Addr) (k : Nat) : Prop where
  ext : Ext E.w0 w
  bt : w.heap[E.B]? = some (.cells #[.slice E.aw E.C.ws.length E.kw, .slice E.at_ E.C.ts.length E.kt, .slice E.ac E.C.cs.length E.kc, .slice E.ao E.C.ts.length E.ko, .int .u64 ((2 ^ E.C.ws.length - 1 : Nat) : Int)] 67 (0, 0))
  bs : w.heap[E.B + 1]? = some (.cells #[.func (.func E.sf) #[] E.cap] 72 (0, 0))
  bo : w.heap[E.B + 2]? = some (.cells #[.slice a l.length k] 27 (0, 0))
  bf : w.heap[E.B + 3]? = some (.cells #[.func (.func 60) #[] #[.pointer (some ⟨E.B + 2, 0, none⟩), .pointer (some ⟨E.B + 1, 0, none⟩), .pointer (some ⟨E.B + 3, 0, none⟩), .pointer (some ⟨E.B, 0, none⟩)]] 72 (0, 0))
  own : w.ownsRow (E.B + 4) 45 4 (.slice a l.length k) l.length (nodeCells l)

theorem PIn.to {E : PEnv} {w w' : World} {l : List NodeD} {a : Option Addr} {k : Nat} (h : PIn E w l a k) (hb : Ext w w') : PIn E w' l a k :=
  ⟨h.ext.trans hb, heap_ext h.bt hb, heap_ext h.bs hb, heap_ext h.bo hb, heap_ext h.bf hb, own_ext h.own hb⟩

theorem PIn.lt {E : PEnv} {w : World} {l : List NodeD} {a : Option Addr} {k : Nat} (h : PIn E w l a k) : E.B + 3 < w.heap.size := heap_lt h.bf
theorem PIn.lt' {E : PEnv} {w : World} {l : List NodeD} {a : Option Addr} {k : Nat} (h : PIn E w l a k) : E.B + 4 ≤ w.heap.size := h.lt

theorem nodeCells_set (l suf : List NodeD) (n : NodeD) (j : Nat) (u : Value) (hj : j < 4) : (nodeCells (l ++ n :: suf)).set (l.length * 4 + j) u = nodeCells l ++ ((cellsN n).set j u ++ nodeCells suf) := by
  have e1 : nodeCells (l ++ n :: suf) = nodeCells l ++ (cellsN n ++ nodeCells suf) := by simp [nodeCells]
  rw [e1, List.set_append_right _ _ (by rw [nodeCells_len]; omega), nodeCells_len, Nat.add_sub_cancel_left, List.set_append_left _ _ (by simp [cellsN]; omega)]

theorem PIn.set {E : PEnv} {w : World} {l suf : List NodeD} {n n' : NodeD} {g k j : Nat} {u : Value} (h : PIn E w (l ++ n :: suf) (some ⟨g, 0, none⟩) k) (hj : j < 4) (hn : (cellsN n).set j u = cellsN n') :
    PIn E (w.setCell ⟨g, l.length * 4 + j, none⟩ u) (l ++ n' :: suf) (some ⟨g, 0, none⟩) k := by
  have hgb := (h.own.lt g rfl).1
  have hl : (l ++ n' :: suf).length = (l ++ n :: suf).length := by simp
  obtain ⟨hs, hg⟩ := h.own.stored (l.length * 4 + j) u
  have hh : ∀ b, b < E.B + 4 → ∀ y, w.heap[b]? = some y → (w.setCell ⟨g, l.length * 4 + j, none⟩ u).heap[b]? = some y := fun b hb y hy => heap_set_other hy (by simp; omega)
  refine ⟨⟨hg.os.trans h.ext.os, hg.tape.trans h.ext.tape, hg.output.trans h.ext.output, Nat.le_trans h.ext.size hg.size, fun b hb => (hg.block b (Nat.lt_of_lt_of_le hb h.ext.size) (fun e => by cases e; unfold PEnv.B at hgb; omega)).trans (h.ext.block b hb)⟩, hh _ (by omega) _ h.bt, hh _ (by omega) _ h.bs, ?_, hh _ (by omega) _ h.bf, ?_⟩
  · rw [hl]; exact hh _ (by omega) _ h.bo
  · rw [hl]
    rw [nodeCells_set _ _ _ _ _ hj, hn] at hs
    have e2 : nodeCells (l ++ n' :: suf) = nodeCells l ++ (cellsN n' ++ nodeCells suf) := by simp [nodeCells]
    rw [e2]
    exact hs

theorem own_some {w : World} {base : Nat} {e : TypeId} {size : Nat} {a : Option Addr} {n k : Nat} {cs : List Value} (h : w.ownsRow base e size (.slice a n k) n cs) (hn : 0 < n) : ∃ g, a = some ⟨g, 0, none⟩ := by
  rcases h.2 with ⟨_, h0⟩ | ⟨g, cap, cur, hv, _⟩
  · omega
  · cases hv
    exact ⟨g, rfl⟩

/-- A node is appended and the box turned. -/
theorem PIn.app {E : PEnv} {w w' : World} {l : List NodeD} {a : Option Addr} {k g cap : Nat} {o : Obj} {x : NodeD} (h : PIn E w l a k) (hg : (w.alloc o).grownBy w' (Value.slice a l.length k).ownBlock)
    (hown : w'.ownsRow (E.B + 4) 45 4 (.slice (some ⟨g, 0, none⟩) (l.length + 1) cap) (l.length + 1) (nodeCells l ++ cellsN x)) :
    PIn E (w'.setCell ⟨E.B + 2, 0, none⟩ (.slice (some ⟨g, 0, none⟩) (l.length + 1) cap)) (l ++ [x]) (some ⟨g, 0, none⟩) cap := by
  have hgb := (hown.lt g rfl).1
  have hk : ∀ b (y : Obj), b < E.B + 4 → w.heap[b]? = some y → w'.heap[b]? = some y := fun b y hb hy => heap_grown' hg (own_ne h.own hb) hy
  have hl1 : (l ++ [x]).length = l.length + 1 := by simp
  have hs := h.lt
  have hx : Ext E.w0 w' := ext_grown h.ext hg h.own (by unfold PEnv.B; omega)
  refine ⟨?_, heap_set_other (hk _ _ (by omega) h.bt) (by simp), heap_set_other (hk _ _ (by omega) h.bs) (by simp), ?_, heap_set_other (hk _ _ (by omega) h.bf) (by simp), ?_⟩
  · refine ⟨hx.os, hx.tape, hx.output, by simpa using hx.size, fun b hb => ?_⟩
    exact (heap_setCell_other w' _ b _ (by unfold PEnv.B; simp; omega)).trans (hx.block b hb)
  · rw [hl1]
    have := hk _ _ (by omega) h.bo
    obtain ⟨hb, hbe⟩ := Array.getElem?_eq_some_iff.1 this
    simp [World.setCell, hb, Array.getElem_modify, hbe]
  · rw [hl1, nodeCells_app]
    have e1 : nodeCells [x] = cellsN x := by simp [nodeCells]
    rw [e1]
    exact ownsRow_setCell_below hown (by simp) _
theorem info_node : (Tryd.prog.info? 45).map (fun i => (i.zero, i.size, i.bytes)) = some (some (.agg #[.int .i64 0, .int .i64 0, .int .i64 0, .int .i64 0]), 4, 32) := by kernel_rfl

set_option maxRecDepth 4000 in
set_option maxHeartbeats 4000000 in
theorem add_leaf (E : PEnv) (hE : POk E) (hok : caseOk E.C = true) (s : Nat) (l : List NodeD) (a : Option Addr) (k : Nat) (w : World) (hs : s < 2 ^ E.C.ws.length) (h0 : s ≠ 0) (hp1 : pop s = 1) (hl : l.length ≤ 1000) (hin : PIn E w l a k) :
    Calls Tryd.prog 60 #[.int .u64 (s : Int), .pointer (some ⟨E.B + 2, 0, none⟩), .pointer (some ⟨E.B + 1, 0, none⟩), .pointer (some ⟨E.B + 3, 0, none⟩), .pointer (some ⟨E.B, 0, none⟩)] w
      fun e w' => ∃ a' k', e = .returned (.int .i64 l.length) ∧ PIn E w' (l ++ planL E.sel E.ones s l.length) a' k' := by
  have hn := caseOk_n hok
  have h1 : s < 1024 := Nat.lt_of_lt_of_le hs (Nat.le_trans (Nat.pow_le_pow_right (by omega) hn.2) (by decide : 2 ^ 10 ≤ 1024))
  have hpi : ((pop s : Int) == 1) = true := by rw [hp1]; rfl
  have hpl := planL_leaf E.sel E.ones s l.length hp1
  rw [hpl]
  clear hpl
  have HIN := Lib.hid hin
  have HTAB := Lib.hid (hE.tab.ext hin.ext)
  have co := cells1 hin.bo
  have coA := fun o => cell_later (Ext.alloc w o) co
  have fo := free_heap hin.bo
  have hsz := hin.lt'
  have hown := hin.own
  obtain ⟨i0, hi, hz0, hz1, hz2⟩ := info_parts info_node
  have h0' : 0 < s := by omega
  clear hin
  go_enter Tryd.func60, Tryd.ntmps60
  go_wp2_with (go_at_call 61; refine (onesCount_any s _ h1).mono ?_; rintro e w' ⟨rfl, rfl⟩)
  go_region_law (first
    | (refine step_append_lies _ (by rfl) _ _ 27 (by rfl) (E.B + 4) 45 i0 (.agg #[.int .i64 0, .int .i64 0, .int .i64 0, .int .i64 0]) 4 32 Tryd.underlying27 hi hz0 hz1 hz2 rfl (by decide) (.slice a l.length k) l.length (nodeCells l) (by rfl) ((own_ext hown (Ext.drew _)).alloc _) ⟨w.heap.size, 0, none⟩ 1 1 (cellsN ⟨-1, tz s, 0, 0⟩) (by rfl) (by rfl) (World.news_of_block (cs := #[.int .i64 (-1), .int .i64 (tz s : Int), .int .i64 0, .int .i64 0]) (heap_alloc_new w.drew _)) (by simp [cellsN, Value.oneCell']) (by decide) (by unfold maxLen; omega) (by omega) (by simp; omega) _ rfl ?_; intro g cap w1 hown1 hgrow hat hlt1; have hbo := heap_grown' hgrow (own_ne (own_ext hown (Ext.drew _)) (by omega)) (HIN.out.to (Ext.drew _)).bo; have co1 := cells1 hbo; have fo1 := free_heap hbo; clear hbo)
    | (refine step_append_lies _ (by rfl) _ _ 27 (by rfl) (E.B + 4) 45 i0 (.agg #[.int .i64 0, .int .i64 0, .int .i64 0, .int .i64 0]) 4 32 Tryd.underlying27 hi hz0 hz1 hz2 rfl (by decide) (.slice a l.length k) l.length (nodeCells l) (by rfl) (own_ext (hown.alloc _) (Ext.drew _)) ⟨w.heap.size, 0, none⟩ 1 1 (cellsN ⟨-1, tz s, 0, 0⟩) (by rfl) (by rfl) (World.news_of_block (cs := #[.int .i64 (-1), .int .i64 (tz s : Int), .int .i64 0, .int .i64 0]) (heap_ext (heap_alloc_new w _) (Ext.drew _))) (by simp [cellsN, Value.oneCell']) (by decide) (by unfold maxLen; omega) (by omega) (by simp; omega) _ rfl ?_; intro g cap w1 hown1 hgrow0 hat hlt1; have hgrow := World.grownBy.trans (grown_drew' _ _) hgrow0; clear hgrow0; have hbo := heap_grown' hgrow (own_ne hown (by omega)) HIN.out.bo; have co1 := cells1 hbo; have fo1 := free_heap hbo; clear hbo)
    | ((rw [if_pos (by rfl)]); go_simp; go_at_call 62; refine (trailing_any s _ h1 h0' (HTAB.out.ext (Ext.drew _))).mono ?_; rintro e w' ⟨rfl, rfl⟩; (try dsimp only)))
  all_goals
    go_wp2_with fail
    go_ret
    first
      | exact ⟨_, _, rfl, HIN.out.app hgrow hown1⟩
      | exact ⟨_, _, rfl, (HIN.out.to (Ext.drew _)).app hgrow hown1⟩

theorem enter_add (args : Array Value) (w : World) : (callFunc 60 args).run Tryd.prog w = .ok (.enter 60 args) w := by rfl

set_option maxRecDepth 4000 in
set_option maxHeartbeats 4000000 in
theorem add_any (E : PEnv) (hE : POk E) (hok : caseOk E.C = true) : ∀ (N s : Nat) (l : List NodeD) (a : Option Addr) (k : Nat) (w : World), pop s ≤ N → E.dom s → s < 2 ^ E.C.ws.length → s ≠ 0 → l.length + 2 * pop s ≤ 1000 → PIn E w l a k →
    Calls Tryd.prog 60 #[.int .u64 (s : Int), .pointer (some ⟨E.B + 2, 0, none⟩), .pointer (some ⟨E.B + 1, 0, none⟩), .pointer (some ⟨E.B + 3, 0, none⟩), .pointer (some ⟨E.B, 0, none⟩)] w
      fun e w' => ∃ a' k', e = .returned (.int .i64 l.length) ∧ PIn E w' (l ++ planL E.sel E.ones s l.length) a' k' := by
  have hn := caseOk_n hok
  have hts := caseOk_ts hok
  intro N
  induction N with
  | zero =>
    intro s l a k w hp hd hs h0 hl hin
    have h1 : s < 1024 := Nat.lt_of_lt_of_le hs (Nat.le_trans (Nat.pow_le_pow_right (by omega) hn.2) (by decide : 2 ^ 10 ≤ 1024))
    have := pop_pos h1 h0
    omega
  | succ N ih =>
    intro s l a k w hp hd hs h0 hl hin
    by_cases hp1 : pop s = 1
    · exact add_leaf E hE hok s l a k w hs h0 hp1 (by omega) hin
    have h1 : s < 1024 := Nat.lt_of_lt_of_le hs (Nat.le_trans (Nat.pow_le_pow_right (by omega) hn.2) (by decide : 2 ^ 10 ≤ 1024))
    have hpi : ((pop s : Int) == 1) = false := by simp; omega
    have hpl := planL_node hn.2 hE.sel s l.length hd hs h0 hp1
    obtain ⟨k1, k2, k3, k4⟩ := hE.sel.ok s hd hs h0 hp1
    obtain ⟨x, hx⟩ : ∃ x, E.ones.getD (E.sel s) 0 = x := ⟨_, rfl⟩
    obtain ⟨ks, hks⟩ : ∃ ks, E.sel s = ks := ⟨_, rfl⟩
    have hxk : E.ones[ks]? = some x := by
      rw [← hx, ← hks, List.getD_eq_getElem?_getD, List.getElem?_eq_getElem k1]
      simp
    have hkt : ks < E.C.ts.length := by rw [← hks]; simpa [PEnv.ones] using k1
    rw [hx] at hpl k2 k3 k4
    rw [hks] at hpl
    obtain ⟨py, pz, qy, qz⟩ := splits_parts h1 k2
    have hxl : x < 1024 := by
      obtain ⟨r, hr, rfl⟩ := List.mem_map.1 (List.mem_of_getElem? hxk)
      exact Nat.lt_of_lt_of_le (mask_lt hok hr) (Nat.le_trans (Nat.pow_le_pow_right (by omega) hn.2) (by decide : 2 ^ 10 ≤ 1024))
    have b1 := bits_and_u64 s x (by omega) (by omega)
    have b2 := bits_not_u64 s x (by omega) (by omega)
    have hyl := and_lt (o := x) hs
    have hzl := sdiff_lt (o := x) hs
    have hps := pop_split s x
    obtain ⟨b, off, hao, c0⟩ := hE.hu ks (.int .u64 (x : Int)) (by rw [List.getElem?_map, hxk]; rfl)
    have HAO := Lib.hid hao
    have HKS := Lib.hid hks
    have HPL := Lib.hid hpl
    have HIN := Lib.hid hin
    have HC0 := Lib.hid c0
    have HE := Lib.hid hE
    have HIH := Lib.hid ih
    have lz := planL_len hn.2 hE.sel 10 (sdiff s x) (l.length + 1) (pop_le _) k4 hzl pz
    obtain ⟨y, hy⟩ : ∃ y, s &&& x = y := ⟨_, rfl⟩
    obtain ⟨z, hz⟩ : ∃ z, sdiff s x = z := ⟨_, rfl⟩
    rw [hy] at b1 py qy hyl k3 hps HPL
    rw [hz] at b2 pz qz hzl k4 hps HPL lz
    have hent := hE.enter
    have cs := cells1 hin.bs
    have co := cells1 hin.bo
    clear hy hz hx k1 k2 hpl hxk hks hin hao c0 hE ih
    obtain ⟨i0, hi, hz0, hz1, hz2⟩ := info_parts info_node
    have hk0 : (0 : Int) ≤ (ks : Int) := by omega
    have hk1 : (ks : Int) < (E.C.ts.length : Int) := by omega
    go_enter Tryd.func60, Tryd.ntmps60
    go_wp2_with (go_at_call 61; refine (onesCount_any s _ h1).mono ?_; rintro e w' ⟨rfl, rfl⟩)
    refine (HE.out.call s w HIN.out.ext hd hs h0 hp1).mono ?_
    rintro e w1 ⟨rfl, hx1⟩
    have hin1 := HIN.out.to hx1
    have HIN1 := Lib.hid hin1
    have co1 := cells1 hin1.bo
    have hsz1 := hin1.lt'
    have hown1 := hin1.own
    rw [HKS.out]
    clear hin1 cs co
    go_wp2_with (at_builtin; refine wpList_append_lies _ rfl _ _ 27 rfl (E.B + 4) 45 i0 (.agg #[.int .i64 0, .int .i64 0, .int .i64 0, .int .i64 0]) 4 32 Tryd.underlying27 hi hz0 hz1 hz2 rfl (by decide) (.slice a l.length k) l.length (nodeCells l) rfl (hown1.alloc _) ⟨w1.heap.size, 0, none⟩ 1 1 (cellsN ⟨ks, 0, 0, 0⟩) rfl rfl (World.news_of_block (cs := #[.int .i64 (ks : Int), .int .i64 0, .int .i64 0, .int .i64 0]) (heap_alloc_new w1 _)) (by simp [cellsN, Value.oneCell']) (by decide) (by unfold maxLen; omega) (by omega) (by simp; omega) _ rfl ?_)
    intro g cap w2 hown2 hgrow hat hlt2
    have hbo := heap_grown' hgrow (own_ne hown1 (by omega)) HIN1.out.bo
    have co2 := cells1 hbo
    have fo2 := free_heap hbo
    have hin3 := HIN1.out.app hgrow hown2
    have HIN3 := Lib.hid hin3
    clear hbo hgrow hown2 hat hlt2 hown1 co1 hin3
    go_wp2_with fail
    obtain ⟨w3, hw3⟩ : ∃ w3, w2.setCell ⟨E.B + 2, 0, none⟩ (.slice (some ⟨g, 0, none⟩) (l.length + 1) cap) = w3 := ⟨_, rfl⟩
    obtain ⟨l1, hl1⟩ : ∃ l1, l ++ [(⟨ks, 0, 0, 0⟩ : NodeD)] = l1 := ⟨_, rfl⟩
    have hl1n : l1.length = l.length + 1 := by rw [← hl1]; simp
    rw [hw3]
    rw [hw3, hl1] at HIN3
    have HL1 := Lib.hid hl1
    have HL1N := Lib.hid hl1n
    have hl1b : l1.length + 2 * pop z ≤ 1000 := by omega
    clear hw3 hl1 hl1n co2 fo2
    have tf := cells1 HIN3.out.bf
    have t3 := (cells5 HIN3.out.bt).2.2.2.1
    rw [HAO.out] at t3
    have c3 := cell_later HIN3.out.ext HC0.out
    have hyN : pop y ≤ N := by omega
    have hzN : pop z ≤ N := by omega
    go_region_held3 (fun w' => w'.cell? ⟨E.B + 3, 0, none⟩ = some (.func (.func 60) #[] #[.pointer (some ⟨E.B + 2, 0, none⟩), .pointer (some ⟨E.B + 1, 0, none⟩), .pointer (some ⟨E.B + 3, 0, none⟩), .pointer (some ⟨E.B, 0, none⟩)]) ∧
        w'.cell? ⟨E.B, 3, none⟩ = some (.slice (some ⟨b, off, none⟩) E.C.ts.length E.ko) ∧ w'.cell? ⟨b, off + ks, none⟩ = some (.int .u64 (x : Int)))
      (first | exact ⟨cells1 hA.bf, HAO.out ▸ (cells5 hA.bt).2.2.2.1, cell_later hA.ext HC0.out⟩ | exact ⟨tf, t3, c3⟩)
      (first | (go_at_call 60; refine (HIH.out z l1 (some ⟨g, 0, none⟩) cap _ hzN k4 hzl pz hl1b (HIN3.out.to (Ext.drew _))).mono ?_; rintro e wA ⟨aA, kA, rfl, hA⟩))
    rename_i hHeld
    clear hHeld tf t3 c3
    obtain ⟨zs, hzs⟩ : ∃ zs, planL E.sel E.ones z l1.length = zs := ⟨_, rfl⟩
    rw [hzs] at hA
    have hzs' : planL E.sel E.ones z (l.length + 1) = zs := by rw [← HL1N.out]; exact hzs
    rw [hzs'] at HPL lz
    obtain ⟨l2, hl2⟩ : ∃ l2, l1 ++ zs = l2 := ⟨_, rfl⟩
    have hl2n : l2.length = l1.length + zs.length := by rw [← hl2]; simp
    rw [hl2] at hA
    have HL2 := Lib.hid hl2
    have HL2N := Lib.hid hl2n
    have HA := Lib.hid hA
    have hl2b : l2.length + 2 * pop y ≤ 1000 := by have := HL1N.out; omega
    clear hzs hzs' hl2 hl2n hA hl1b
    have tf := cells1 HA.out.bf
    have t3 := (cells5 HA.out.bt).2.2.2.1
    rw [HAO.out] at t3
    have c3 := cell_later HA.out.ext HC0.out
    go_wp2_with fail
    go_region_held3 (fun w' => w'.cell? ⟨E.B + 3, 0, none⟩ = some (.func (.func 60) #[] #[.pointer (some ⟨E.B + 2, 0, none⟩), .pointer (some ⟨E.B + 1, 0, none⟩), .pointer (some ⟨E.B + 3, 0, none⟩), .pointer (some ⟨E.B, 0, none⟩)]) ∧
        w'.cell? ⟨E.B, 3, none⟩ = some (.slice (some ⟨b, off, none⟩) E.C.ts.length E.ko) ∧ w'.cell? ⟨b, off + ks, none⟩ = some (.int .u64 (x : Int)))
      (first | exact ⟨cells1 hB.bf, HAO.out ▸ (cells5 hB.bt).2.2.2.1, cell_later hB.ext HC0.out⟩ | exact ⟨tf, t3, c3⟩)
      (first | (go_at_call 60; refine (HIH.out y l2 aA kA _ hyN k3 hyl py hl2b (HA.out.to (Ext.drew _))).mono ?_; rintro e wB ⟨aB, kB, rfl, hB⟩))
    rename_i hHeld
    clear hHeld tf t3 c3
    obtain ⟨os, hos⟩ : ∃ os, planL E.sel E.ones y l2.length = os := ⟨_, rfl⟩
    rw [hos] at hB
    have hos' : planL E.sel E.ones y (l.length + 1 + zs.length) = os := by rw [← HL1N.out, ← HL2N.out]; exact hos
    rw [hos'] at HPL
    have hl3 : l2 ++ os = l ++ ⟨ks, 0, 0, 0⟩ :: (zs ++ os) := by rw [← HL2.out, ← HL1.out]; simp
    rw [hl3] at hB
    obtain ⟨l3, hl3e⟩ : ∃ l3, l ++ (⟨ks, 0, 0, 0⟩ : NodeD) :: (zs ++ os) = l3 := ⟨_, rfl⟩
    have hl3n : l.length < l3.length := by rw [← hl3e]; simp
    have hown := hB.own
    have co := cells1 hB.bo
    rw [hl3e] at hown co
    obtain ⟨g3, rfl⟩ := own_some hown (by omega)
    have hg3 := (hown.lt g3 rfl).1
    have hne : E.B + 2 ≠ g3 := by omega
    have hi0 : (0 : Int) ≤ (l.length : Int) := by omega
    have hi1 : (l.length : Int) < (l3.length : Int) := by omega
    have fz := hown.frozenAt
    have hcl := nodeCells_len l3
    have cz : ∀ j, j < 4 → ∃ v, wB.cell? ⟨g3, l.length * 4 + j, none⟩ = some v := fun j hj => by
      obtain ⟨_, _, hc⟩ := cells_of_own' hown
      obtain ⟨b', o', he, hcc⟩ := hc (l.length * 4 + j) _ (List.getElem?_eq_getElem (by omega))
      cases he
      exact ⟨_, by simpa using hcc⟩
    obtain ⟨v2, cz2⟩ := cz 2 (by omega)
    obtain ⟨v3, cz3⟩ := cz 3 (by omega)
    have HB := Lib.hid hB
    have HL3E := Lib.hid hl3e
    clear cz hcl hos hos' hl3 hl3e hB hown hl2b
    go_wp2_with fail
    go_region
    go_wp2_with fail
    go_ret
    refine ⟨some ⟨g3, 0, none⟩, kB, ret_eq rfl, ?_⟩
    rw [HPL.out]
    have e1 : (l1.length : Int) = (l.length : Int) + 1 := by rw [HL1N.out]; rfl
    have e2 : (l2.length : Int) = (l.length : Int) + 1 + (zs.length : Int) := by rw [HL2N.out, HL1N.out]; omega
    rw [e1, e2]
    exact ((HB.out.set (j := 2) (n' := ⟨ks, 0, (l.length : Int) + 1, 0⟩) (by decide) rfl).set (j := 3) (n' := ⟨ks, 0, (l.length : Int) + 1, (l.length : Int) + 1 + (zs.length : Int)⟩) (by decide) rfl).to (Ext.drew _)
end Go.Proofs.YtdbendnfgkonbaaDoor
