/- Contract of tests.newTrial. -/
import Derived.Test.YtdbendnfgkonbaaDoorSmall
namespace Go.Proofs.YtdbendnfgkonbaaDoor
open Go.RowKit
set_option linter.unusedVariables false
set_option linter.unusedSimpArgs false

theorem findI_any (p : Int → Bool) : ∀ (xs : List Int) (k : Nat), decide (0 ≤ findI p xs k) = xs.any p
  | [], k => by simp [findI]
  | x :: r, k => by
    cases hx : p x with
    | true => simp [findI, hx]
    | false => simp only [findI, hx, List.any_cons, Bool.false_or]; exact findI_any p r (k + 1)

theorem containsFunc_any (f : Nat) (cap : Array Value) (p : Int → Bool) (a : Option Addr) (k : Nat) (xs : List Int) (w : World) (hx : IntsAt w a xs) (hk : xs.length ≤ 9223372036854775807)
    (hf : ∀ args w', (callFunc f args).run Tryd.prog w' = .ok (.enter f args) w')
    (hp : ∀ x w', x ∈ xs → Ext w w' → Calls Tryd.prog f (#[.int .i64 x] ++ cap) w' fun e w'' => e = .returned (.bool (p x)) ∧ Ext w' w'') :
    Calls Tryd.prog 54 #[.slice a xs.length k, .func (.func f) #[] cap] w fun e w' => e = .returned (.bool (xs.any p)) ∧ Ext w w' := by
  have HP := Lib.hid hp
  clear hp
  go_enter Tryd.func54, Tryd.ntmps54
  go_wp2_with (go_at_call 67; refine (indexFunc_any f cap p a k xs w hx hk hf HP.out).mono ?_; rintro e w' ⟨rfl, hb⟩)
  go_ret
  refine ⟨ret_eq ?_, by assumption⟩
  rw [← findI_any p xs 0]
  rfl

theorem enter_bad1 (args : Array Value) (w : World) : (callFunc 55 args).run Tryd.prog w = .ok (.enter 55 args) w := by rfl
theorem enter_bad2 (args : Array Value) (w : World) : (callFunc 56 args).run Tryd.prog w = .ok (.enter 56 args) w := by rfl
theorem enter_bad3 (args : Array Value) (w : World) : (callFunc 57 args).run Tryd.prog w = .ok (.enter 57 args) w := by rfl

theorem bad1_any (x : Int) (w : World) :
    Calls Tryd.prog 55 #[.int .i64 x] w fun e w' => e = .returned (.bool (!inR x 1 1000)) ∧ w = w' := by
  go_enter Tryd.func55, Tryd.ntmps55
  go_wp2_with (go_at_call 49; refine (within_any _ _ _ _).mono ?_; rintro e w' ⟨rfl, rfl⟩)
  go_ret
  exact ⟨rfl, rfl⟩
theorem bad2_any (x : Int) (w : World) :
    Calls Tryd.prog 56 #[.int .i64 x] w fun e w' => e = .returned (.bool (!inR x 1 100)) ∧ w = w' := by
  go_enter Tryd.func56, Tryd.ntmps56
  go_wp2_with (go_at_call 49; refine (within_any _ _ _ _).mono ?_; rintro e w' ⟨rfl, rfl⟩)
  go_ret
  exact ⟨rfl, rfl⟩
theorem bad3_any (x : Int) (w : World) :
    Calls Tryd.prog 57 #[.int .i64 x] w fun e w' => e = .returned (.bool (!inR x 0 1)) ∧ w = w' := by
  go_enter Tryd.func57, Tryd.ntmps57
  go_wp2_with (go_at_call 49; refine (within_any _ _ _ _).mono ?_; rintro e w' ⟨rfl, rfl⟩)
  go_ret
  exact ⟨rfl, rfl⟩

def badWs (xs : List Int) : Bool := xs.any fun x => !inR x 1 1000
def badCs (xs : List Int) : Bool := xs.any fun x => !inR x 1 100
def badRow (xs : List Int) : Bool := xs.any fun x => !inR x 0 1

theorem cont1 (a : Option Addr) (k : Nat) (xs : List Int) (w : World) (hx : IntsAt w a xs) (hk : xs.length ≤ 9223372036854775807) :
    Calls Tryd.prog 54 #[.slice a xs.length k, .func (.func 55) #[] #[]] w fun e w' => e = .returned (.bool (badWs xs)) ∧ Ext w w' :=
  containsFunc_any _ #[] _ a k xs w hx hk enter_bad1 (fun x w' _ _ => (bad1_any x w').mono fun _ _ h => ⟨h.1, h.2 ▸ Ext.refl _⟩)
theorem cont2 (a : Option Addr) (k : Nat) (xs : List Int) (w : World) (hx : IntsAt w a xs) (hk : xs.length ≤ 9223372036854775807) :
    Calls Tryd.prog 54 #[.slice a xs.length k, .func (.func 56) #[] #[]] w fun e w' => e = .returned (.bool (badCs xs)) ∧ Ext w w' :=
  containsFunc_any _ #[] _ a k xs w hx hk enter_bad2 (fun x w' _ _ => (bad2_any x w').mono fun _ _ h => ⟨h.1, h.2 ▸ Ext.refl _⟩)
theorem cont3 (a : Option Addr) (k : Nat) (xs : List Int) (w : World) (hx : IntsAt w a xs) (hk : xs.length ≤ 9223372036854775807) :
    Calls Tryd.prog 54 #[.slice a xs.length k, .func (.func 57) #[] #[]] w fun e w' => e = .returned (.bool (badRow xs)) ∧ Ext w w' :=
  containsFunc_any _ #[] _ a k xs w hx hk enter_bad3 (fun x w' _ _ => (bad3_any x w').mono fun _ _ h => ⟨h.1, h.2 ▸ Ext.refl _⟩)

def zeroTrial : Value := .agg #[.slice none 0 0, .slice none 0 0, .slice none 0 0, .slice none 0 0, .int .u64 0]
def trialV (aw at_ ac ao : Option Addr) (nw kw nt kt nc kc no ko : Nat) (all : Nat) : Value :=
  .agg #[.slice aw nw kw, .slice at_ nt kt, .slice ac nc kc, .slice ao no ko, .int .u64 (all : Int)]

section
variable (aw at_ ac : Option Addr) (kw kt kc : Nat) (ws cs : List Int) (ts : List (List Int)) (w : World)

abbrev NTBad (w : World) (e : Ending) (w' : World) : Prop := e = .returned (.tuple #[zeroTrial, .int .i64 2]) ∧ Ext w w'

theorem nt_bad1 (h : inR ws.length 1 10 = false) :
    Calls Tryd.prog 33 #[.agg #[.slice aw ws.length kw, .slice at_ ts.length kt, .slice ac cs.length kc]] w (NTBad w) := by
  go_enter Tryd.func33, Tryd.ntmps33
  go_wp2_with (go_at_call 49; refine (within_any _ _ _ _).mono ?_; rintro e w' ⟨rfl, rfl⟩)
  exact bodyPost_ret (v := .tuple #[zeroTrial, .int .i64 2]) (by simp [results, Tryd.results33, go_sem, zeroTrial]) rfl ⟨rfl, (Ext.alloc _ _).trans (Ext.alloc _ _)⟩

theorem nt_bad2 (h : inR ws.length 1 10 = true) (h2 : 12 < ts.length) :
    Calls Tryd.prog 33 #[.agg #[.slice aw ws.length kw, .slice at_ ts.length kt, .slice ac cs.length kc]] w (NTBad w) := by
  go_enter Tryd.func33, Tryd.ntmps33
  go_wp2_with (go_at_call 49; refine (within_any _ _ _ _).mono ?_; rintro e w' ⟨rfl, rfl⟩)
  exact bodyPost_ret (v := .tuple #[zeroTrial, .int .i64 2]) (by simp [results, Tryd.results33, go_sem, zeroTrial]) rfl ⟨rfl, (Ext.alloc _ _).trans (Ext.alloc _ _)⟩

theorem nt_bad3 (h : inR ws.length 1 10 = true) (h2 : ts.length ≤ 12) (h3 : cs.length ≠ ts.length) :
    Calls Tryd.prog 33 #[.agg #[.slice aw ws.length kw, .slice at_ ts.length kt, .slice ac cs.length kc]] w (NTBad w) := by
  have h3' : ((cs.length : Int) != (ts.length : Int)) = true := by rw [bne_iff_ne]; omega
  clear h3
  go_enter Tryd.func33, Tryd.ntmps33
  go_wp2_with (go_at_call 49; refine (within_any _ _ _ _).mono ?_; rintro e w' ⟨rfl, rfl⟩)
  exact bodyPost_ret (v := .tuple #[zeroTrial, .int .i64 2]) (by simp [results, Tryd.results33, go_sem, zeroTrial]) rfl ⟨rfl, (Ext.alloc _ _).trans (Ext.alloc _ _)⟩

set_option maxHeartbeats 1000000 in
theorem nt_bad4 (h : inR ws.length 1 10 = true) (h2 : ts.length ≤ 12) (h3 : cs.length = ts.length) (hw : IntsAt w aw ws) (h4 : badWs ws = true) :
    Calls Tryd.prog 33 #[.agg #[.slice aw ws.length kw, .slice at_ ts.length kt, .slice ac cs.length kc]] w (NTBad w) := by
  have h3' : ((cs.length : Int) != (ts.length : Int)) = false := by rw [bne_eq_false_iff_eq]; omega
  have hn : ws.length ≤ 9223372036854775807 := by have := (inR_iff _ _ _).1 h; omega
  clear h3
  go_enter Tryd.func33, Tryd.ntmps33
  go_wp2_with (first
    | (go_at_call 49; refine (within_any _ _ _ _).mono ?_; rintro e w' ⟨rfl, rfl⟩)
    | (go_at_call 54; refine (cont1 _ _ _ _ (hw.ext ((Ext.alloc _ _).trans (Ext.alloc _ _))) hn).mono ?_; rintro e w' ⟨rfl, hb⟩; obtain ⟨hc, hf⟩ := hb.rules))
  have hz : w.heap.size + 1 < w'.heap.size := by have := hb.size; simp at this; omega
  refine bodyPost_ret (v := .tuple #[zeroTrial, .int .i64 2]) (by simp [results, Tryd.results33, go_sem, zeroTrial, hc, hz]) rfl ⟨rfl, ?_⟩
  have hb0 : Ext w w' := hb.of_alloc.of_alloc
  exact ((((hb0.setCell (by simp) _).setCell (by simp) _).setCell (by simp) _).setCell (by simp) _).setCell (by simp) _

set_option maxHeartbeats 1000000 in
theorem nt_bad5 (h : inR ws.length 1 10 = true) (h2 : ts.length ≤ 12) (h3 : cs.length = ts.length) (hw : IntsAt w aw ws) (h4 : badWs ws = false) (hcs : IntsAt w ac cs) (h5 : badCs cs = true) :
    Calls Tryd.prog 33 #[.agg #[.slice aw ws.length kw, .slice at_ ts.length kt, .slice ac cs.length kc]] w (NTBad w) := by
  have h3' : ((cs.length : Int) != (ts.length : Int)) = false := by rw [bne_eq_false_iff_eq]; omega
  have hn : ws.length ≤ 9223372036854775807 := by have := (inR_iff _ _ _).1 h; omega
  have hn2 : cs.length ≤ 9223372036854775807 := by omega
  clear h3
  go_enter Tryd.func33, Tryd.ntmps33
  go_wp2_with (go_at_call 49; refine (within_any _ _ _ _).mono ?_; rintro e w' ⟨rfl, rfl⟩)
  refine (cont1 _ _ _ _ (hw.ext ((Ext.alloc _ _).trans (Ext.alloc _ _))) hn).mono ?_
  rintro e w1 ⟨rfl, hb⟩
  obtain ⟨hc, hf⟩ := hb.rules
  go_wp2_with fail
  refine (cont2 _ _ _ _ ((hcs.ext ((Ext.alloc _ _).trans (Ext.alloc _ _))).ext hb) hn2).mono ?_
  rintro e w2 ⟨rfl, hb2⟩
  obtain ⟨hc2, hf2⟩ := (hb.trans hb2).rules
  clear hc hf
  go_wp2_with fail
  refine bodyPost_ret (v := .tuple #[zeroTrial, .int .i64 2]) (by simp [results, Tryd.results33, go_sem, zeroTrial, hc2]) rfl ⟨rfl, ?_⟩
  have hb0 : Ext w w2 := (hb.trans hb2).of_alloc.of_alloc
  exact ((((hb0.setCell (by simp) _).setCell (by simp) _).setCell (by simp) _).setCell (by simp) _).setCell (by simp) _

/-- The number of a row of results: bit i is the result of fault i. -/
def maskTo (row : List Int) : Nat → Nat
  | 0 => 0
  | k + 1 => maskTo row k + (row.getD k 0).toNat * 2 ^ k
def mask (row : List Int) : Nat := maskTo row row.length

theorem maskTo_lt (row : List Int) (h : ∀ i, row.getD i 0 = 0 ∨ row.getD i 0 = 1) : ∀ k, maskTo row k < 2 ^ k
  | 0 => by simp [maskTo]
  | k + 1 => by
    have := maskTo_lt row h k
    simp only [maskTo]
    rcases h k with e | e <;> rw [e] <;> simp <;> omega

def rowOk (n : Nat) (row : List Int) : Bool := row.length == n && !badRow row

def caseOk (C : CaseD) : Bool := inR C.ws.length 1 10 && decide (C.ts.length ≤ 12) && decide (C.cs.length = C.ts.length) && !badWs C.ws && !badCs C.cs && C.ts.all (rowOk C.ws.length)

theorem all_mask {n : Nat} (h : n ≤ 10) : IntKind.u64.wrap (IntKind.u64.wrap (2 ^ n) - 1) = ((2 ^ n - 1 : Nat) : Int) := by
  have hp : (2 : Nat) ^ n ≤ 2 ^ 10 := Nat.pow_le_pow_right (by omega) h
  have h1 : 0 < (2 : Nat) ^ n := Nat.two_pow_pos n
  have hc : ((2 : Int) ^ n) = ((2 ^ n : Nat) : Int) := by simp
  rw [hc]
  simp only [IntKind.wrap, IntKind.bits, IntKind.signed]
  simp
  omega

theorem maskTo_step (row : List Int) (k : Nat) (x : Int) (hk : k < 10) (hx : row[k]? = some x) (h01 : x = 0 ∨ x = 1) (hlt : maskTo row k < 2 ^ k) :
    bits BinOp.or IntKind.u64 (maskTo row k : Int) (IntKind.u64.wrap (x * 2 ^ k)) = (maskTo row (k + 1) : Int) := by
  have hp : (2 : Nat) ^ k ≤ 2 ^ 9 := Nat.pow_le_pow_right (by omega) (by omega)
  have hw : ∀ n : Int, 0 ≤ n → n < 2 ^ 63 → IntKind.u64.wrap n = n := fun n h0 h1 => by simp [IntKind.wrap, IntKind.bits, IntKind.signed]; omega
  have hc : ((2 : Int) ^ k) = ((2 ^ k : Nat) : Int) := by simp
  have e1 : IntKind.u64.wrap (x * 2 ^ k) = ((x.toNat * 2 ^ k : Nat) : Int) := by
    rcases h01 with rfl | rfl
    · simp [IntKind.wrap, IntKind.bits, IntKind.signed]
    · rw [hc, Int.one_mul, hw _ (by omega) (by omega)]; simp
  rw [e1]
  have hb : x.toNat * 2 ^ k < 2 ^ 63 := by rcases h01 with rfl | rfl <;> simp <;> omega
  rw [(bits_nat .u64 63 (by decide) hw _ _ (by omega) hb).2]
  have hg : row.getD k 0 = x := by simp [List.getD, hx]
  simp only [maskTo, hg]
  rcases h01 with rfl | rfl
  · simp
  · simp only [Int.toNat_one, Nat.one_mul]
    rw [Nat.or_comm]
    have := Nat.two_pow_add_eq_or_of_lt (i := k) hlt 1
    simp only [Nat.mul_one] at this
    rw [← this]
    congr 1
    omega

theorem info_faults : (Tryd.prog.info? 65).map (fun i => (i.zero, i.size, i.bytes)) = some (some (.int .u64 0), 1, 8) := by kernel_rfl
theorem badRow_get {row : List Int} (h : badRow row = false) {i : Nat} {x : Int} (hx : row[i]? = some x) : x = 0 ∨ x = 1 := by
  have hm : x ∈ row := List.mem_of_getElem? hx
  simp only [badRow, List.any_eq_false] at h
  have := h x hm
  simp [inR] at this
  omega
theorem badRow_getD {row : List Int} (h : badRow row = false) (i : Nat) : row.getD i 0 = 0 ∨ row.getD i 0 = 1 := by
  cases hx : row[i]? with
  | none => left; simp [List.getD, hx]
  | some x => simpa [List.getD, hx] using badRow_get h hx

/-- What the loop over the tests keeps. -/
structure NTInv (w : World) (T j : Nat) (aw at_ ac : Option Addr) (kw kt kc : Nat) (ws cs : List Int) (ts : List (List Int)) (all : Int) (v : Value) (wr : World) : Prop where
  ext : Ext w wr
  hT : w.heap.size + 1 < T
  b0 : wr.heap[w.heap.size]? = some (.cells #[.slice aw ws.length kw, .slice at_ ts.length kt, .slice ac cs.length kc] 25 (0, 0))
  b1 : wr.heap[w.heap.size + 1]? = some (.cells #[.slice none 0 0, .slice none 0 0, .slice none 0 0, .slice none 0 0, .int .u64 0] 67 (0, 0))
  bT : wr.heap[T]? = some (.cells #[.slice aw ws.length kw, .slice at_ ts.length kt, .slice ac cs.length kc, v, .int .u64 all] 67 (0, 0))
  own : wr.ownsRow (T + 1) 65 1 v j ((ts.take j).map fun r => Value.int .u64 (mask r : Int))

set_option maxHeartbeats 1000000 in
theorem nt_rows (h : inR ws.length 1 10 = true) (h2 : ts.length ≤ 12) (h3 : cs.length = ts.length) (hw : IntsAt w aw ws) (h4 : badWs ws = false) (hcs : IntsAt w ac cs) (h5 : badCs cs = false) (hts : RowsAt w at_ ts) :
    Calls Tryd.prog 33 #[.agg #[.slice aw ws.length kw, .slice at_ ts.length kt, .slice ac cs.length kc]] w fun e w' =>
      (ts.all (rowOk ws.length) = true ∧ ∃ ao ko, e = .returned (.tuple #[trialV aw at_ ac ao ws.length kw ts.length kt cs.length kc ts.length ko (2 ^ ws.length - 1), .int .i64 0]) ∧ UintsAt w' ao (ts.map mask) ∧ ts.length ≤ ko ∧ Ext w w') ∨
      (ts.all (rowOk ws.length) = false ∧ NTBad w e w') := by
  have h3' : ((cs.length : Int) != (ts.length : Int)) = false := by rw [bne_eq_false_iff_eq]; omega
  have hn : ws.length ≤ 10 := by have := (inR_iff _ _ _).1 h; omega
  have hn2 : cs.length ≤ 9223372036854775807 := by omega
  have hn1 : ws.length ≤ 9223372036854775807 := by omega
  clear h3
  go_enter Tryd.func33, Tryd.ntmps33
  go_wp2_with (go_at_call 49; refine (within_any _ _ _ _).mono ?_; rintro e w' ⟨rfl, rfl⟩)
  refine (cont1 _ _ _ _ (hw.ext ((Ext.alloc _ _).trans (Ext.alloc _ _))) hn1).mono ?_
  rintro e w1 ⟨rfl, hb⟩
  obtain ⟨hc, hf⟩ := hb.rules
  go_wp2_with fail
  refine (cont2 _ _ _ _ ((hcs.ext ((Ext.alloc _ _).trans (Ext.alloc _ _))).ext hb) hn2).mono ?_
  rintro e w2 ⟨rfl, hb2⟩
  have hb3 := hb.trans hb2
  obtain ⟨hc2, hf2⟩ := hb3.rules
  have c0 : w2.cell? ⟨w.heap.size, 0, none⟩ = some (.slice aw ws.length kw) := by rw [hc2 _ _ (by simp; omega)]; simp
  have c1 : w2.cell? ⟨w.heap.size, 1, none⟩ = some (.slice at_ ts.length kt) := by rw [hc2 _ _ (by simp; omega)]; simp
  have c2 : w2.cell? ⟨w.heap.size, 2, none⟩ = some (.slice ac cs.length kc) := by rw [hc2 _ _ (by simp; omega)]; simp
  have hB0 : w2.heap[w.heap.size]? = some (.cells #[.slice aw ws.length kw, .slice at_ ts.length kt, .slice ac cs.length kc] 25 (0, 0)) := by
    rw [hb3.block _ (by simp; omega), Below.heap_alloc _ _ _ (by simp)]
    exact heap_alloc_new _ _
  have hB1 : w2.heap[w.heap.size + 1]? = some (.cells #[.slice none 0 0, .slice none 0 0, .slice none 0 0, .slice none 0 0, .int .u64 0] 67 (0, 0)) := by
    rw [hb3.block _ (by simp)]
    simpa using heap_alloc_new (w.alloc (.cells #[.slice aw ws.length kw, .slice at_ ts.length kt, .slice ac cs.length kc] 25)) _
  have hb4 : Ext w w2 := hb3.of_alloc.of_alloc
  have hsz : w.heap.size + 1 < w2.heap.size := by have := hb3.size; simp at this; omega
  have hs0 : w.heap.size < w2.heap.size := by omega
  have c0' : ∀ o, (w2.alloc o).cell? ⟨w.heap.size, 0, none⟩ = some (.slice aw ws.length kw) := fun o => by rw [World.cell?_alloc_past _ _ _ hs0]; exact c0
  have c1' : ∀ o, (w2.alloc o).cell? ⟨w.heap.size, 1, none⟩ = some (.slice at_ ts.length kt) := fun o => by rw [World.cell?_alloc_past _ _ _ hs0]; exact c1
  have c2' : ∀ o, (w2.alloc o).cell? ⟨w.heap.size, 2, none⟩ = some (.slice ac cs.length kc) := fun o => by rw [World.cell?_alloc_past _ _ _ hs0]; exact c2
  clear hc hf hc2 hf2 hb hb2 hb3
  obtain ⟨all, hall⟩ : ∃ all, IntKind.u64.wrap (IntKind.u64.wrap (2 ^ ws.length) - 1) = all := ⟨_, rfl⟩
  have hn0 : (0 : Int) ≤ (ws.length : Int) := by omega
  have hn10 : (ws.length : Int) ≤ 10 := by omega
  go_wp2_with fail
  go_region
  go_wp2_with fail
  have HALL := Lib.hid hall
  clear hall c0' c1' c2'
  go_loopw [50] (fun i wr => ∃ (j : Nat) (va : Option Addr) (vk : Nat), j ≤ ts.length ∧ i = .int .i64 j ∧ (ts.take j).all (rowOk ws.length) = true ∧ NTInv w w2.heap.size j aw at_ ac kw kt kc ws cs ts all (.slice va j vk) wr) (fun i _ => ts.length - (intOf i).toNat)
  case atStart =>
    refine ⟨0, none, 0, Nat.zero_le _, rfl, by simp, ⟨hb4.trans ((Ext.alloc _ _).trans (Ext.drew _)), by omega, heap_alloc hB0, heap_alloc hB1, heap_alloc_new _ _, World.ownsRow_nil _ _ _ _⟩⟩
  case round =>
    obtain ⟨j, va, vk, hj, rfl, hok, hinv⟩ := hrel
    obtain ⟨hext, hT, b0, b1, bT, hown⟩ := hinv
    have HOK := Lib.hid hok
    clear hok
    by_cases hlt : j < ts.length
    · obtain ⟨b, off, a', k', row, rfl, hcr, hk', hrow, hrj⟩ := (hts.ext hext).get hlt
      by_cases hlen : row.length = ws.length
      · have hlen' : ((row.length : Int) != (ws.length : Int)) = false := by rw [bne_eq_false_iff_eq]; omega
        have HLEN := Lib.hid hlen
        have hln : row.length ≤ 10 := by omega
        clear hlen
        go_wp2_with fail
        refine (cont3 _ _ _ _ hrow (by omega)).mono ?_
        rintro e w3 ⟨rfl, hb3⟩
        have b0' := heap_ext b0 hb3
        have b1' := heap_ext b1 hb3
        have bT' := heap_ext bT hb3
        have hown' := own_ext hown hb3
        have hext' := hext.trans hb3
        have hrow' := hrow.ext hb3
        clear b0 b1 bT hown hext hrow hcr
        obtain ⟨t0, t1, t2, t3, t4⟩ := cells5 bT'
        obtain ⟨z0, z1, z2, z3, z4⟩ := cells5 b1'
        have tf := free_heap bT'
        have zf := free_heap b1'
        cases hbr : badRow row with
        | true =>
          have HBR := Lib.hid hbr
          clear hbr
          go_wp2_with fail
          refine bodyPost_ret (v := .tuple #[zeroTrial, .int .i64 2]) (by simp [results, Tryd.results33, go_sem, zeroTrial, z0, z1, z2, z3, z4]) rfl (Or.inr ⟨?_, rfl, ?_⟩)
          · exact all_no hrj.out (by simp [rowOk, HBR.out])
          · exact ((((hext'.setCell (by simp) _).setCell (by simp) _).setCell (by simp) _).setCell (by simp) _).setCell (by simp) _
        | false =>
          have HBR := Lib.hid hbr
          clear hbr
          go_wp2_with fail
          go_loop [8, 65] (fun sv i => ∃ m : Nat, m ≤ row.length ∧ i = .int .i64 m ∧ sv = .int .u64 (maskTo row m : Int)) (fun _ i => row.length - (intOf i).toNat)
          case atStart => exact ⟨0, Nat.zero_le _, rfl, rfl⟩
          case round =>
            obtain ⟨m, hm, rfl, rfl⟩ := hrel
            by_cases hltm : m < row.length
            · obtain ⟨rb, roff, x, hra, hcx, hxm⟩ := hrow'.get hltm
              have h01 := badRow_get HBR.out hxm.out
              have hml := Lib.hid (maskTo_step row m x (by omega) hxm.out h01 (maskTo_lt row (badRow_getD HBR.out) m))
              subst hra
              go_wp2_with fail
              go_round
              case rel => exact ⟨m + 1, by omega, by go_num, by rw [hml.out]⟩
              case measure => simp [intOf]; omega
            · obtain rfl : m = row.length := by omega
              have hmk := Lib.hid (rfl : maskTo row row.length = mask row)
              have hext4 := hext'.size
              obtain ⟨i0, hi, hz0, hz1, hz2⟩ := info_parts info_faults
              go_wp2_with (at_builtin; refine wpList_append_own _ rfl _ _ 63 rfl (w2.heap.size + 1) 65 i0 (.int .u64 0) 1 8 Tryd.underlying63 hi hz0 hz1 hz2 rfl (by decide) _ _ _ rfl (hown'.alloc _) ⟨w3.heap.size, 0, none⟩ 1 1 [.int .u64 (maskTo row row.length : Int)] rfl rfl (World.news_of_block (cs := #[.int .u64 (maskTo row row.length : Int)]) (heap_alloc_new w3 _)) (by simp [Value.oneCell']) (by unfold maxLen; omega) (by omega) (by simp; have := heap_lt bT'; omega) ?_)
              intro v' w4 hown4 hgrow _
              have b0'' := heap_grown hgrow hown' (by omega) b0'
              have b1'' := heap_grown hgrow hown' (by omega) b1'
              have bT'' := heap_grown hgrow hown' (by omega) bT'
              have hext'' := ext_grown hext' hgrow hown' (by omega)
              obtain ⟨va', vk', hv', _, _⟩ := cells_of_own hown4
              rw [hv'] at hown4 ⊢
              have t3' := cell_heap bT'' 3
              have tf' := free_heap bT''
              clear hgrow hown' hv'
              go_wp2_with fail
              go_roundw
              case rel =>
                refine ⟨j + 1, va', vk', by omega, by go_num, ?_, ⟨hext''.setCell (by simp; omega) _, by omega, ?_, ?_, ?_, ?_⟩⟩
                · exact all_take HOK.out hrj.out (by simp [rowOk, HBR.out, HLEN.out])
                · rw [heap_setCell_other _ _ _ _ (by simp; omega)]; exact b0''
                · rw [heap_setCell_other _ _ _ _ (by simp; omega)]; exact b1''
                · rw [heap_setCell_same _ _ _ _ _ _ bT'']; rfl
                · refine ownsRow_setCell_other ?_ (own_ne hown4 (by simp)) _
                  rw [← map_take hrj.out]
                  simpa [mask] using hown4
              case measure => simp [intOf]; omega
      · have hlen' : ((row.length : Int) != (ws.length : Int)) = true := by rw [bne_iff_ne]; omega
        have HLEN := Lib.hid hlen
        clear hlen
        obtain ⟨z0, z1, z2, z3, z4⟩ := cells5 b1
        have zf := free_heap b1
        go_wp2_with fail
        refine bodyPost_ret (v := .tuple #[zeroTrial, .int .i64 2]) (by simp [results, Tryd.results33, go_sem, zeroTrial, z0, z1, z2, z3, z4]) rfl (Or.inr ⟨?_, rfl, ?_⟩)
        · exact all_no hrj.out (by simp [rowOk, HLEN.out])
        · exact ((((hext.setCell (by simp) _).setCell (by simp) _).setCell (by simp) _).setCell (by simp) _).setCell (by simp) _
    · obtain ⟨t0, t1, t2, t3, t4⟩ := cells5 bT
      obtain ⟨z0, z1, z2, z3, z4⟩ := cells5 b1
      have tf := free_heap bT
      have zf := free_heap b1
      obtain rfl : j = ts.length := by omega
      go_wp2_with fail
      refine bodyPost_ret (v := .tuple #[trialV aw at_ ac va ws.length kw ts.length kt cs.length kc ts.length vk (2 ^ ws.length - 1), .int .i64 0]) (by simp [results, Tryd.results33, go_sem, trialV, z0, z1, z2, z3, z4, ← all_mask hn, HALL.out]) rfl (Or.inl ⟨?_, va, vk, rfl, ?_, ?_, ?_⟩)
      · have := HOK.out; rwa [List.take_length] at this
      · have ho := ownsRow_setCell_other (a := ⟨w.heap.size + 1, 4, none⟩) (ownsRow_setCell_other (a := ⟨w.heap.size + 1, 3, none⟩) (ownsRow_setCell_other (a := ⟨w.heap.size + 1, 2, none⟩) (ownsRow_setCell_other (a := ⟨w.heap.size + 1, 1, none⟩) (ownsRow_setCell_other (a := ⟨w.heap.size + 1, 0, none⟩) hown (own_ne hown (by simp; omega)) (.slice aw ws.length kw)) (own_ne hown (by simp; omega)) (.slice at_ ts.length kt)) (own_ne hown (by simp; omega)) (.slice ac cs.length kc)) (own_ne hown (by simp; omega)) (.slice va ts.length vk)) (own_ne hown (by simp; omega)) (.int .u64 all)
        have hc := (cells_of_own' ho).2.2
        rw [List.take_length] at hc
        unfold UintsAt
        rw [List.map_map]
        exact hc
      · exact (cells_of_own' hown).2.1
      · exact ((((hext.setCell (by simp) _).setCell (by simp) _).setCell (by simp) _).setCell (by simp) _).setCell (by simp) _
end

/-- A value of type tests.trial reads as the trial of a case. -/
def TrialAt (w : World) (v : Value) (C : CaseD) : Prop :=
  ∃ aw at_ ac ao kw kt kc ko, v = trialV aw at_ ac ao C.ws.length kw C.ts.length kt C.cs.length kc C.ts.length ko (2 ^ C.ws.length - 1) ∧
    C.ws.length ≤ kw ∧ C.ts.length ≤ kt ∧ C.cs.length ≤ kc ∧ C.ts.length ≤ ko ∧ IntsAt w aw C.ws ∧ RowsAt w at_ C.ts ∧ IntsAt w ac C.cs ∧ UintsAt w ao (C.ts.map mask)

theorem TrialAt.ext {w w' : World} {v : Value} {C : CaseD} (h : TrialAt w v C) (hb : Ext w w') : TrialAt w' v C := by
  obtain ⟨aw, at_, ac, ao, kw, kt, kc, ko, hv, h1, h2, h3, h4, h5, h6, h7, h8⟩ := h
  exact ⟨aw, at_, ac, ao, kw, kt, kc, ko, hv, h1, h2, h3, h4, h5.ext hb, h6.ext hb, h7.ext hb, h8.ext hb⟩

theorem newTrial_any (cv : Value) (C : CaseD) (w : World) (hC : CaseAt w cv C) :
    Calls Tryd.prog 33 #[cv] w fun e w' =>
      (caseOk C = true ∧ ∃ tv, e = .returned (.tuple #[tv, .int .i64 0]) ∧ TrialAt w' tv C ∧ Ext w w') ∨ (caseOk C = false ∧ NTBad w e w') := by
  obtain ⟨aw, kw, at_, kt, ac, kc, rfl, k1, k2, k3, hw, ht, hc⟩ := hC
  obtain ⟨ws, ts, cs⟩ := C
  dsimp only at *
  cases h1 : inR ws.length 1 10 with
  | false => exact (nt_bad1 aw at_ ac kw kt kc ws cs ts w h1).mono fun e w' h => .inr ⟨by simp [caseOk, h1], h⟩
  | true =>
    by_cases h2 : ts.length ≤ 12
    · by_cases h3 : cs.length = ts.length
      · cases h4 : badWs ws with
        | true => exact (nt_bad4 aw at_ ac kw kt kc ws cs ts w h1 h2 h3 hw h4).mono fun e w' h => .inr ⟨by simp [caseOk, h4], h⟩
        | false =>
          cases h5 : badCs cs with
          | true => exact (nt_bad5 aw at_ ac kw kt kc ws cs ts w h1 h2 h3 hw h4 hc h5).mono fun e w' h => .inr ⟨by simp [caseOk, h5], h⟩
          | false =>
            refine (nt_rows aw at_ ac kw kt kc ws cs ts w h1 h2 h3 hw h4 hc h5 ht).mono fun e w' h => ?_
            rcases h with ⟨hr, ao, ko, he, hu, hko, hx⟩ | ⟨hr, h⟩
            · refine .inl ⟨by simp only [caseOk, h1, h2, h3, h4, h5, hr]; simp, _, he, ⟨aw, at_, ac, ao, kw, kt, kc, ko, rfl, k1, k2, k3, hko, hw.ext hx, ht.ext hx, hc.ext hx, hu⟩, hx⟩
            · exact .inr ⟨by simp [caseOk, hr], h⟩
      · exact (nt_bad3 aw at_ ac kw kt kc ws cs ts w h1 h2 h3).mono fun e w' h => .inr ⟨by simp [caseOk, h3], h⟩
    · exact (nt_bad2 aw at_ ac kw kt kc ws cs ts w h1 (by omega)).mono fun e w' h => .inr ⟨by simp [caseOk, h2], h⟩

end Go.Proofs.YtdbendnfgkonbaaDoor
