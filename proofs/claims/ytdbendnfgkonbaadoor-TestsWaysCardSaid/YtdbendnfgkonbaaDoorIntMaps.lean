/- Maps with integer keys that the call itself makes: what block g holds as a list of keys and values; lookup, store, len. -/
import Derived.Test.YtdbendnfgkonbaaDoorBase
import Derived.Maps.OwnOps
namespace Go.Proofs.YtdbendnfgkonbaaDoor
open Go.RowKit
open Go.ChangeMaps (setBlock heap_setBlock_same heap_setBlock_other)
set_option linter.unusedVariables false
set_option linter.unusedSimpArgs false

def MapAt (w : World) (g : Nat) (q : IntKind) (M : List (Int × Value)) : Prop :=
  ∃ es clock, w.heap[g]? = some (.map es clock) ∧ es.toList.map (fun e => (e.key, e.val)) = M.map fun x => (Value.int q x.1, x.2)

def lookM : List (Int × Value) → Int → Option Value
  | [], _ => none
  | (k', v) :: r, k => if k == k' then some v else lookM r k
def upsM : List (Int × Value) → Int → Value → List (Int × Value)
  | [], k, v => [(k, v)]
  | (k', v') :: r, k, v => if k == k' then (k, v) :: r else (k', v') :: upsM r k v

theorem lookM_ups (M : List (Int × Value)) (k : Int) (v : Value) (k' : Int) : lookM (upsM M k v) k' = if k' = k then some v else lookM M k' := by
  induction M with
  | nil => by_cases h : k' = k <;> simp [upsM, lookM, h]
  | cons x r ih =>
    obtain ⟨a, b⟩ := x
    by_cases h : k = a
    · subst h
      by_cases h' : k' = k <;> simp [upsM, lookM, h']
    · by_cases h' : k' = a
      · subst h'
        have : k' ≠ k := fun e => h e.symm
        simp [upsM, lookM, h, this]
      · simp [upsM, lookM, h, h', ih]
theorem upsM_length (M : List (Int × Value)) (k : Int) (v : Value) : (upsM M k v).length = if (lookM M k).isSome then M.length else M.length + 1 := by
  induction M with
  | nil => simp [upsM, lookM]
  | cons x r ih =>
    obtain ⟨a, b⟩ := x
    by_cases h : k = a
    · simp [upsM, lookM, h]
    · simp only [upsM, lookM, beq_iff_eq, h, if_false, List.length_cons, ih]
      split <;> rfl

section
variable {P : Program} {w : World} {g : Nat} {q : IntKind} {M : List (Int × Value)}

theorem findNow_int (k : Int) : ∀ (es : List MapEntry) (M : List (Int × Value)) (i : Nat), es.map (fun e => (e.key, e.val)) = M.map (fun x => (Value.int q x.1, x.2)) →
    (Instr.findNow (.int q) (.int q k) es i = some none ∧ lookM M k = none) ∨
    ∃ j v, Instr.findNow (.int q) (.int q k) es i = some (some (i + j, v)) ∧ lookM M k = some v ∧ (∃ e, es[j]? = some e ∧ e.key = .int q k) ∧
      ∀ u, (es.modify j fun e => { e with key := .int q k, val := u }).map (fun e => (e.key, e.val)) = (upsM M k u).map (fun x => (Value.int q x.1, x.2))
  | [], [], i, _ => .inl ⟨rfl, rfl⟩
  | [], _ :: _, i, h => by simp at h
  | _ :: _, [], i, h => by simp at h
  | e :: es, (k', v) :: M, i, h => by
    simp only [List.map_cons, List.cons.injEq, Prod.mk.injEq] at h
    obtain ⟨⟨h1, h2⟩, h3⟩ := h
    by_cases hk : k = k'
    · subst hk
      refine .inr ⟨0, v, ?_, ?_, ⟨e, rfl, h1⟩, fun u => ?_⟩
      · simp [Instr.findNow, h1, Instr.sameNow, h2]
      · simp [lookM]
      · simp [upsM, h3]
    · have hkb : (k == k') = false := by simpa using hk
      rcases findNow_int k es M (i + 1) h3 with ⟨ha, hb⟩ | ⟨j, v', ha, hb, ⟨e', he', hk'⟩, hc⟩
      · refine .inl ⟨?_, ?_⟩
        · simp [Instr.findNow, h1, Instr.sameNow, hkb, ha]
        · simp [lookM, hk, hb]
      · refine .inr ⟨j + 1, v', ?_, ?_, ⟨e', by simpa using he', hk'⟩, fun u => ?_⟩
        · simp [Instr.findNow, h1, Instr.sameNow, hkb, ha]; omega
        · simp [lookM, hk, hb]
        · have := hc u
          simp [upsM, hk, h1, h2] at this ⊢
          exact this

theorem ups_new (k : Int) (v : Value) : ∀ (M : List (Int × Value)), lookM M k = none → upsM M k v = M ++ [(k, v)]
  | [], _ => rfl
  | (a, b) :: r, h => by
    by_cases hk : k = a
    · simp [lookM, hk] at h
    · simp [lookM, hk] at h
      simp [upsM, hk, ups_new k v r h]

theorem run_findKey_int {kt : TypeId} (hk : P.underlying kt = some (.int q)) (k : Int) (es : List MapEntry) (M : List (Int × Value)) (h : es.map (fun e => (e.key, e.val)) = M.map (fun x => (Value.int q x.1, x.2))) :
    ((Instr.findKey kt (.int q k) es).run P w = .ok none w ∧ lookM M k = none) ∨
    ∃ j v, (Instr.findKey kt (.int q k) es).run P w = .ok (some (j, v)) w ∧ lookM M k = some v ∧ (∃ e, es[j]? = some e ∧ e.key = .int q k) ∧
      ∀ u, (es.modify j fun e => { e with key := .int q k, val := u }).map (fun e => (e.key, e.val)) = (upsM M k u).map (fun x => (Value.int q x.1, x.2)) := by
  rcases findNow_int k es M 0 h with ⟨ha, hb⟩ | ⟨j, v, ha, hb, hc⟩
  · exact .inl ⟨by simp [Instr.findKey, run_underlying hk, ha], hb⟩
  · rw [Nat.zero_add] at ha
    exact .inr ⟨j, v, by simp [Instr.findKey, run_underlying hk, ha], hb, hc⟩

theorem run_checkKey_int {kt : TypeId} (hk : P.underlying kt = some (.int q)) (b : Bool) (k : Int) : (Instr.checkKey b 10000 kt (.int q k)).run P w = .ok () w := by
  unfold Instr.checkKey
  simp [run_underlying hk]

theorem run_lookup_at {t kt et : TypeId} (ht : P.underlying t = some (.map kt et)) (hk : P.underlying kt = some (.int q)) (h : MapAt w g q M) {z : Value} (hz : (zeroValue et).run P w = .ok z w) (k : Int) :
    (Instr.lookup t (.map (some g)) (.int q k) false).run P w = .ok ((lookM M k).getD z) w := by
  obtain ⟨es, clock, hb, he⟩ := h
  rcases run_findKey_int (w := w) hk k es.toList M he with ⟨h1, h2⟩ | ⟨j, v, h1, h2, _⟩
  · simp [Instr.lookup, run_underlying ht, MapKept.run_getObj_map hb, run_checkKey_int hk, h1, h2, hz]
  · simp [Instr.lookup, run_underlying ht, MapKept.run_getObj_map hb, run_checkKey_int hk, h1, h2]
theorem run_lookup_ok_at {t kt et : TypeId} (ht : P.underlying t = some (.map kt et)) (hk : P.underlying kt = some (.int q)) (h : MapAt w g q M) {z : Value} (hz : (zeroValue et).run P w = .ok z w) (k : Int) :
    (Instr.lookup t (.map (some g)) (.int q k) true).run P w = .ok (.tuple #[(lookM M k).getD z, .bool (lookM M k).isSome]) w := by
  obtain ⟨es, clock, hb, he⟩ := h
  rcases run_findKey_int (w := w) hk k es.toList M he with ⟨h1, h2⟩ | ⟨j, v, h1, h2, _⟩
  · simp [Instr.lookup, run_underlying ht, MapKept.run_getObj_map hb, run_checkKey_int hk, h1, h2, hz]
  · simp [Instr.lookup, run_underlying ht, MapKept.run_getObj_map hb, run_checkKey_int hk, h1, h2]

theorem run_update_at {t kt et : TypeId} (ht : P.underlying t = some (.map kt et)) (hk : P.underlying kt = some (.int q)) (h : MapAt w g q M) (k : Int) (u : Value) :
    ∃ w', (Instr.mapUpdate t (.map (some g)) (.int q k) u).run P w = .ok () w' ∧ MapAt w' g q (upsM M k u) ∧ w.grownBy w' (some g) := by
  obtain ⟨es, clock, hb, he⟩ := h
  have fr : ∀ o, w.grownBy (setBlock w g o) (some g) := fun o => ⟨rfl, rfl, rfl, by simp [setBlock], fun i _ hi => heap_setBlock_other hb _ (fun e => hi (by rw [e]))⟩
  rcases run_findKey_int (w := w) hk k es.toList M he with ⟨h1, h2⟩ | ⟨j, v, h1, h2, ⟨e, hj, hkey⟩, h3⟩
  · refine ⟨setBlock w g (.map (es.push { key := .int q k, val := u, born := clock }) (clock + 1)), ?_, ⟨_, _, heap_setBlock_same hb _, ?_⟩, fr _⟩
    · simp [Instr.mapUpdate, run_underlying ht, MapKept.run_getObj_map hb, run_checkKey_int hk, h1, MapKept.run_setObj_map _ hb, setBlock]
    · rw [ups_new k u M h2]; simp [he]
  · have hj' : es[j]? = some e := by simpa using hj
    refine ⟨setBlock w g (.map (es.modify j fun e => { e with key := .int q k, val := u }) clock), ?_, ⟨_, _, heap_setBlock_same hb _, ?_⟩, fr _⟩
    · simp [Instr.mapUpdate, run_underlying ht, MapKept.run_getObj_map hb, run_checkKey_int hk, h1, hj', hkey, Instr.keyThatStays, Instr.sameBits, MapKept.run_setObj_map _ hb, setBlock]
    · rw [Array.toList_modify]; exact h3 u

theorem MapAt.made (w : World) (q : IntKind) : MapAt (w.alloc (.map #[] 0)) w.heap.size q [] := ⟨#[], 0, (MapKept.heap_alloc w _).1, rfl⟩
theorem MapAt.lt (h : MapAt w g q M) : g < w.heap.size := by
  obtain ⟨es, clock, hb, _⟩ := h
  exact heap_lt hb
theorem MapAt.block {w' : World} (h : MapAt w g q M) (hb : w'.heap[g]? = w.heap[g]?) : MapAt w' g q M := by
  obtain ⟨es, clock, h1, h2⟩ := h
  exact ⟨es, clock, hb.trans h1, h2⟩
theorem MapAt.ext {w' : World} (h : MapAt w g q M) (hb : Ext w w') : MapAt w' g q M := h.block (hb.block g h.lt)
end

/-- 'm[k] = v' at the operation. -/
theorem wpList_update_int {P : Program} (w : World) {ops : Array Oper} {rest : List Oper} {o : Oper} {a : Act} {Q : Exit → Act → World → Prop}
    (hg : o.guard = none) (m x v : Operand) (t : TypeId) (hop : o.op = Op.mapUpdate t m x v)
    (kt et : TypeId) (q : IntKind) (ht : P.underlying t = some (.map kt et)) (hk : P.underlying kt = some (.int q)) (g : Nat) (M : List (Int × Value))
    (hm : a.eval m = .map (some g)) (hown : MapAt w g q M) (k : Int) (val : Value) (hx : a.eval x = .int q k) (hv : a.eval v = val)
    (hK : ∀ w', MapAt w' g q (upsM M k val) → w.grownBy w' (some g) → wpList P ops Q rest (a.put o.dst undef) w') :
    wpList P ops Q (o :: rest) a w := by
  refine wpList_plain hg fun K' hK' => ?_
  obtain ⟨w', hrun, r1, r2⟩ := run_update_at ht hk hown k val
  unfold Oper.wp
  simp [execOp, hop, hm, hx, hv, hrun, Result.andThen]
  exact hK' _ _ (hK w' r1 r2)
end Go.Proofs.YtdbendnfgkonbaaDoor
