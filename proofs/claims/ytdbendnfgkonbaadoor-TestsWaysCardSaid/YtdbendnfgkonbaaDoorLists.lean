/- Contracts: list, nodes, without: copies of lists that came in. -/
import Derived.Test.YtdbendnfgkonbaaDoorDoublesM
namespace Go.Proofs.YtdbendnfgkonbaaDoor
open Go.RowKit
set_option linter.unusedVariables false
set_option linter.unusedSimpArgs false

/-- append(v, x...) where x is a slice that came in: a nil one has capacity 0. -/
theorem wpList_append_came {P : Program} {w : World} {ops : Array Oper} {rest : List Oper} {o : Oper} {a : Act} {Q : Exit → Act → World → Prop} (hgd : o.guard = none) (s x : Operand) (t : TypeId)
    (ho : o.op = .call { callee := .builtin .append, args := #[s, x], argTypes := #[t, t] })
    (base : Nat) (e : TypeId) (i : TypeInfo) (z : Value) (size bytes : Nat) (ht : P.underlying t = some (.slice e)) (hi : P.info? e = some i) (hz : i.zero = some z)
    (hsize : i.size = size) (hby : i.bytes = bytes) (hzs : z.cells.size = size) (hsz : 0 < size)
    (v : Value) (n : Nat) (xs : List Value) (hs : a.eval s = v) (hown : w.ownsRow base e size v n xs)
    (ad : Option Addr) (m c : Nat) (news : List Value) (hx : a.eval x = .slice ad m c) (hl : news.length = m * size) (hnil : ad = none → c = 0) (hnews : CellsAt w ad news) (h1 : ∀ u ∈ news, u.oneCell' = true)
    (h63 : n + m ≤ maxLen) (hbytes : (n + m) * bytes ≤ 140737488355328) (hbase : base ≤ w.heap.size)
    (h : ∀ v' w', w'.ownsRow base e size v' (n + m) (xs ++ news) → w.grownBy w' v.ownBlock → wpList P ops Q rest (a.put o.dst v') w') : wpList P ops Q (o :: rest) a w := by
  cases ad with
  | none =>
    obtain rfl := hnil rfl
    have hn : news = [] := by
      cases news with
      | nil => rfl
      | cons u r => obtain ⟨b, off, hb, _⟩ := hnews 0 u rfl; cases hb
    subst hn
    have hm : m = 0 := by
      have : m * size = 0 := by simpa using hl.symm
      rcases Nat.mul_eq_zero.1 this with h | h
      · exact h
      · omega
    subst hm
    refine wpList_append_own_none hgd s x t ho base e i size ht hi v n xs hs hown hx ?_
    exact h v w (by simpa using hown) ⟨rfl, rfl, rfl, Nat.le_refl _, fun _ _ _ => rfl⟩
  | some A =>
    refine wpList_append_own w hgd s x t ho base e i z size bytes ht hi hz hsize hby hzs hsz v n xs hs hown A m c news hx hl ?_ h1 h63 hbytes hbase fun v' w' r1 r2 r3 => h v' w' r1 r2
    intro j u hj
    obtain ⟨b, off, hb, hc⟩ := hnews j u hj
    cases hb
    rw [Addr.add_lit]
    exact hc

theorem intVals_one (l : List Int) : ∀ u ∈ intVals l, u.oneCell' = true := by
  intro u hu
  obtain ⟨x, _, rfl⟩ := List.mem_map.1 hu
  rfl
theorem ints_take {w : World} {a : Option Addr} {xs : List Int} (h : IntsAt w a xs) (n : Nat) : CellsAt w a (intVals (xs.take n)) := by
  intro i v hv
  refine h i v ?_
  unfold intVals at hv
  rw [List.getElem?_map, List.getElem?_take] at hv
  rw [List.getElem?_map]
  split at hv
  · exact hv
  · simp at hv

theorem ints_none {w : World} {xs : List Int} (h : IntsAt w none xs) : xs = [] := by
  cases xs with
  | nil => rfl
  | cons x r => obtain ⟨b, off, hb, _⟩ := h 0 (.int .i64 x) rfl; cases hb

set_option maxRecDepth 20000 in
theorem list_any (a : Option Addr) (n k : Nat) (xs : List Int) (w : World) (hn : n = xs.length) (hx : IntsAt w a xs) (hk : xs.length ≤ k) (hnil : a = none → k = 0) :
    Calls Tryd.prog 32 #[.slice a n k] w fun e w' => ∃ v, e = .returned v ∧ w'.ownsRow w.heap.size 3 1 v (xs.take 14).length (intVals (xs.take 14)) ∧ Ext w w' := by
  have hc := Lib.hid (ints_take hx 14)
  have hl : (xs.take 14).length = min n 14 := by rw [List.length_take]; omega
  have HL := Lib.hid hl
  obtain ⟨i1, hi1, hz10, hz11, hz12⟩ := info_parts info_int
  rw [hl]
  cases a with
  | none =>
    obtain rfl := hnil rfl
    obtain rfl : n = 0 := by omega
    have hxs := ints_none hx
    subst hxs
    have hc0 : CellsAt w none [] := fun i v hv => by simp at hv
    clear hl hx hk hn
    go_enter Tryd.func32, Tryd.ntmps32
    go_wp2_with (at_builtin; refine wpList_append_came rfl _ _ 22 rfl w.heap.size 3 i1 (.int .i64 0) 1 8 Tryd.underlying22 hi1 hz10 hz11 hz12 rfl (by decide) (.slice none 0 0) 0 [] rfl (World.ownsRow_nil _ _ _ _) none 0 0 [] rfl rfl (fun _ => rfl) hc0 (by simp) (by decide) (by decide) (Nat.le_refl _) ?_)
    intro v w4 hown hgrow
    have HOWN := Lib.hid hown
    clear hown
    go_wp2_with fail
    go_ret
    exact ⟨v, rfl, by simpa [intVals] using HOWN.out, (Ext.refl w).grown hgrow (Nat.le_refl _) (fun k hk => by simp [Value.ownBlock] at hk)⟩
  | some A =>
    obtain ⟨m, hm⟩ : ∃ m, min n 14 = m := ⟨_, rfl⟩
    rw [hm] at hl ⊢
    have hnk : n ≤ k := by omega
    have hm14 : m ≤ 14 := by omega
    have HLM := Lib.hid hl
    have hil : (intVals (xs.take 14)).length = m * 1 := by unfold intVals; rw [List.length_map]; omega
    have HIL := Lib.hid hil
    by_cases h14 : (n : Int) ≤ 14
    · obtain rfl : m = n := by omega
      clear hl hx hk hn hnil hil hm
      go_enter Tryd.func32, Tryd.ntmps32
      go_wp2_with (at_builtin; refine wpList_append_came rfl _ _ 22 rfl w.heap.size 3 i1 (.int .i64 0) 1 8 Tryd.underlying22 hi1 hz10 hz11 hz12 rfl (by decide) (.slice none 0 0) 0 [] rfl (World.ownsRow_nil _ _ _ _) (some A) m k (intVals (xs.take 14)) rfl HIL.out (fun h => by cases h) hc.out (intVals_one _) (by unfold maxLen; omega) (by omega) (Nat.le_refl _) ?_)
      intro v w4 hown hgrow
      have HOWN := Lib.hid hown
      clear hown
      go_wp2_with fail
      go_ret
      exact ⟨v, rfl, by simpa using HOWN.out, (Ext.refl w).grown hgrow (Nat.le_refl _) (fun k hk => by simp [Value.ownBlock] at hk)⟩
    · obtain rfl : m = 14 := by omega
      clear hl hx hk hn hnil hil hm
      go_enter Tryd.func32, Tryd.ntmps32
      go_wp2_with (at_builtin; refine wpList_append_came rfl _ _ 22 rfl w.heap.size 3 i1 (.int .i64 0) 1 8 Tryd.underlying22 hi1 hz10 hz11 hz12 rfl (by decide) (.slice none 0 0) 0 [] rfl (World.ownsRow_nil _ _ _ _) (some A) 14 k (intVals (xs.take 14)) rfl HIL.out (fun h => by cases h) hc.out (intVals_one _) (by unfold maxLen; omega) (by omega) (Nat.le_refl _) ?_)
      intro v w4 hown hgrow
      have HOWN := Lib.hid hown
      clear hown
      go_wp2_with fail
      go_ret
      exact ⟨v, rfl, by simpa using HOWN.out, (Ext.refl w).grown hgrow (Nat.le_refl _) (fun k hk => by simp [Value.ownBlock] at hk)⟩
theorem list_slice (a : Option Addr) (n k : Nat) (xs : List Int) (w : World) (hn : n = xs.length) (hx : IntsAt w a xs) (hk : xs.length ≤ k) (hnil : a = none → k = 0) :
    Calls Tryd.prog 32 #[.slice a n k] w fun e w' => ∃ a' k', e = .returned (.slice a' (xs.take 14).length k') ∧ w'.ownsRow w.heap.size 3 1 (.slice a' (xs.take 14).length k') (xs.take 14).length (intVals (xs.take 14)) ∧ Ext w w' :=
  (list_any a n k xs w hn hx hk hnil).mono fun e w' ⟨v, h1, h2, h3⟩ => by
    obtain ⟨a', k', rfl, _, _⟩ := cells_of_own h2
    exact ⟨a', k', h1, h2, h3⟩
end Go.Proofs.YtdbendnfgkonbaaDoor
