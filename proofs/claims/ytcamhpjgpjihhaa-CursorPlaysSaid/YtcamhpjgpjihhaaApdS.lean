/- append of a whole slice of one-cell elements onto a row of the call's own: the law, in the walk's forms. Nothing of the program stands here. -/
import Derived.Test.YtcamhpjgpjihhaaApd
import Derived.Test.YtcamhpjgpjihhaaRd
namespace Go.Proofs.Ytcamhpjgpjihhaa
set_option linter.unusedVariables false
set_option linter.unusedSimpArgs false
open Go.RowKit

section
variable {P : Program}

theorem run_append_row (w : World) (base : Nat) (t ty e : TypeId) (z : Value) (bytes : Nat) (ht : P.underlying t = some (.slice e)) (hinfo : (P.info? e).map (fun i => (i.zero, i.size, i.bytes)) = some (some z, 1, bytes)) (hz : z.cells.size = 1)
    (v : Value) (n : Nat) (xs : List Value) (hown : w.ownsRow base e 1 v n xs) {α : Type} (mk : α → Value) (hmk : ∀ x, (mk x).oneCell' = true) (x : Value) (l : List α) (hx : RowN 1 (One mk) w x l)
    (hl : (n + l.length) * bytes ≤ 140737488355328) (hn : n + l.length < 140737488355328) (hbase : base ≤ w.heap.size) :
    ∃ A cap w', (Builtin.append_ #[t, t] ty #[v, x]).run P w = .ok (.slice A (n + l.length) cap) w' ∧ w'.ownsRow base e 1 (.slice A (n + l.length) cap) (n + l.length) (xs ++ l.map mk) ∧ w.grownBy w' v.ownBlock := by
  obtain ⟨i0, hi, hzz⟩ := Option.map_eq_some_iff.1 hinfo
  simp only [Prod.mk.injEq] at hzz
  obtain ⟨hz0, hz1, hz2⟩ := hzz
  obtain ⟨A, cap, rfl, hlc, hcm, hrow⟩ := hx.one
  cases A with
  | none =>
    have hl0 : l = [] := by
      cases l with
      | nil => rfl
      | cons s r =>
        obtain ⟨b, off, e, _⟩ := hrow 0 (by simp)
        cases e
    subst hl0
    refine ⟨v.ownBlock.map (fun g => ⟨g, 0, none⟩), (match v with | .slice _ _ c => c | _ => 0), w, ?_, ?_, ⟨rfl, rfl, rfl, Nat.le_refl _, fun _ _ _ => rfl⟩⟩
    · rcases hown.2 with ⟨rfl, rfl⟩ | ⟨g, cap', cur, rfl, _, _, hnc, _⟩
      · simp [Builtin.append_, run_underlying ht, sizeOf, typeInfo, hi, Builtin.lenOf, Builtin.firstCells, Value.ownBlock]
      · simp [Builtin.append_, run_underlying ht, sizeOf, typeInfo, hi, Builtin.lenOf, Builtin.firstCells, hnc, storeCells, Value.ownBlock]
    · rcases hown.2 with ⟨rfl, rfl⟩ | ⟨g, cap', cur, rfl, _⟩
      · simpa [Value.ownBlock] using hown
      · simpa [Value.ownBlock] using hown
  | some a =>
    have hnews : ∀ j u, (l.map mk)[j]? = some u → w.cell? (a.add j) = some u := by
      intro j u hu
      have hj : j < l.length := by
        rcases Nat.lt_or_ge j l.length with h | h
        · exact h
        · rw [List.getElem?_eq_none (by simpa using h)] at hu; cases hu
      obtain ⟨b, off, e, hc⟩ := hrow j hj
      cases e
      rw [add_form, hc]
      simpa [hj] using hu
    obtain ⟨v', w', hr, h2, h3, h4, _⟩ := run_append_own_at (P := P) w base t ty e i0 z 1 bytes ht hi hz0 hz1 hz2 hz (by omega) v n xs hown a l.length cap (l.map mk) (by simp) hnews
      (fun u hu => by obtain ⟨s, _, rfl⟩ := List.mem_map.1 hu; exact hmk s) (by simp only [maxLen]; omega) hl hbase
    rcases h2.2 with ⟨rfl, h0⟩ | ⟨g, cap', cur, rfl, _⟩
    · refine ⟨none, 0, w', ?_, ?_, h3⟩
      · rw [hr, h0]
      · rw [h0] at h2 ⊢; exact h2
    · exact ⟨_, _, w', hr, h2, h3⟩

variable {ops : Array Oper} {rest : List Oper} {o : Oper} {a : Act}

theorem wp_append_row {w : World} {K : Act → World → Prop} {Q : Exit → Act → World → Prop} (base : Nat) (s x : Operand) (t e : TypeId) (z : Value) (bytes : Nat)
    (ho : o.op = .call { callee := .builtin .append, args := #[s, x], argTypes := #[t, t] })
    (ht : P.underlying t = some (.slice e)) (hinfo : (P.info? e).map (fun i => (i.zero, i.size, i.bytes)) = some (some z, 1, bytes)) (hz : z.cells.size = 1)
    (v : Value) (n : Nat) (xs : List Value) {α : Type} (mk : α → Value) (hmk : ∀ x, (mk x).oneCell' = true) (vx : Value) (l : List α) (hs : a.eval s = v) (hx : a.eval x = vx) (hown : w.ownsRow base e 1 v n xs) (hl' : RowN 1 (One mk) w vx l)
    (hl : (n + l.length) * bytes ≤ 140737488355328) (hn : n + l.length < 140737488355328) (hbase : base ≤ w.heap.size)
    (h : ∀ A cap w', w'.ownsRow base e 1 (.slice A (n + l.length) cap) (n + l.length) (xs ++ l.map mk) → w.grownBy w' v.ownBlock → K (a.put o.dst (.slice A (n + l.length) cap)) w') : o.wp P a w K Q := by
  obtain ⟨A, cap, w', hr, h2, h3⟩ := run_append_row (P := P) w base t o.type e z bytes ht hinfo hz v n xs hown mk hmk vx l hl' hl hn hbase
  unfold Oper.wp execOp
  simp only [ho, resolve, invoke, builtin, Sem.run_bind, Sem.run_pure, Result.andThen_ok, List.map_toArray, List.map_cons, List.map_nil, hs, hx, hr]
  exact h A cap w' h2 h3

theorem wpList_append_row {w : World} {Q : Exit → Act → World → Prop} (base : Nat) (hgd : o.guard = none) (s x : Operand) (t e : TypeId) (z : Value) (bytes : Nat)
    (ho : o.op = .call { callee := .builtin .append, args := #[s, x], argTypes := #[t, t] })
    (ht : P.underlying t = some (.slice e)) (hinfo : (P.info? e).map (fun i => (i.zero, i.size, i.bytes)) = some (some z, 1, bytes)) (hz : z.cells.size = 1)
    (v : Value) (n : Nat) (xs : List Value) {α : Type} (mk : α → Value) (hmk : ∀ x, (mk x).oneCell' = true) (vx : Value) (l : List α) (hs : a.eval s = v) (hx : a.eval x = vx) (hown : w.ownsRow base e 1 v n xs) (hl' : RowN 1 (One mk) w vx l)
    (hl : (n + l.length) * bytes ≤ 140737488355328) (hn : n + l.length < 140737488355328) (hbase : base ≤ w.heap.size)
    (h : ∀ A cap w', w'.ownsRow base e 1 (.slice A (n + l.length) cap) (n + l.length) (xs ++ l.map mk) → w.grownBy w' v.ownBlock → wpList P ops Q rest (a.put o.dst (.slice A (n + l.length) cap)) w') : wpList P ops Q (o :: rest) a w :=
  wpList_plain hgd fun _ hK => wp_append_row base s x t e z bytes ho ht hinfo hz v n xs mk hmk vx l hs hx hown hl' hl hn hbase fun A cap w' h2 h3 => hK _ _ (h A cap w' h2 h3)

theorem step_append_row {w : World} {K : Act → World → Prop} {Q : Exit → Act → World → Prop} {E : Prop} (base : Nat) (hgd : o.guard = none) (s x : Operand) (t e : TypeId) (z : Value) (bytes : Nat)
    (ho : o.op = .call { callee := .builtin .append, args := #[s, x], argTypes := #[t, t] })
    (ht : P.underlying t = some (.slice e)) (hinfo : (P.info? e).map (fun i => (i.zero, i.size, i.bytes)) = some (some z, 1, bytes)) (hz : z.cells.size = 1)
    (v : Value) (n : Nat) (xs : List Value) {α : Type} (mk : α → Value) (hmk : ∀ x, (mk x).oneCell' = true) (vx : Value) (l : List α) (hs : a.eval s = v) (hx : a.eval x = vx) (hown : w.ownsRow base e 1 v n xs) (hl' : RowN 1 (One mk) w vx l)
    (hl : (n + l.length) * bytes ≤ 140737488355328) (hn : n + l.length < 140737488355328) (hbase : base ≤ w.heap.size)
    (h : ∀ A cap w', w'.ownsRow base e 1 (.slice A (n + l.length) cap) (n + l.length) (xs ++ l.map mk) → w.grownBy w' v.ownBlock → K (a.put o.dst (.slice A (n + l.length) cap)) w') :
    if Region.wanted o (yielded ops a.tmps) = true then Oper.wp P o a w K Q else E := by
  have hw : Region.wanted o (yielded ops a.tmps) = true := by simp [Region.wanted, hgd]
  rw [if_pos hw]
  exact wp_append_row base s x t e z bytes ho ht hinfo hz v n xs mk hmk vx l hs hx hown hl' hl hn hbase h
theorem wpList_append_strs {w : World} {Q : Exit → Act → World → Prop} (base : Nat) (hgd : o.guard = none) (s x : Operand) (t e : TypeId) (z : Value) (bytes : Nat)
    (ho : o.op = .call { callee := .builtin .append, args := #[s, x], argTypes := #[t, t] })
    (ht : P.underlying t = some (.slice e)) (hinfo : (P.info? e).map (fun i => (i.zero, i.size, i.bytes)) = some (some z, 1, bytes)) (hz : z.cells.size = 1)
    (v : Value) (n : Nat) (xs : List Value) (vx : Value) (l : List ByteArray) (hs : a.eval s = v) (hx : a.eval x = vx) (hown : w.ownsRow base e 1 v n xs) (hl' : Strs w vx l)
    (hl : (n + l.length) * bytes ≤ 140737488355328) (hn : n + l.length < 140737488355328) (hbase : base ≤ w.heap.size)
    (h : ∀ A cap w', w'.ownsRow base e 1 (.slice A (n + l.length) cap) (n + l.length) (xs ++ l.map Value.string) → w.grownBy w' v.ownBlock → wpList P ops Q rest (a.put o.dst (.slice A (n + l.length) cap)) w') : wpList P ops Q (o :: rest) a w :=
  wpList_append_row base hgd s x t e z bytes ho ht hinfo hz v n xs Value.string (fun _ => rfl) vx l hs hx hown hl' hl hn hbase h

theorem step_append_strs {w : World} {K : Act → World → Prop} {Q : Exit → Act → World → Prop} {E : Prop} (base : Nat) (hgd : o.guard = none) (s x : Operand) (t e : TypeId) (z : Value) (bytes : Nat)
    (ho : o.op = .call { callee := .builtin .append, args := #[s, x], argTypes := #[t, t] })
    (ht : P.underlying t = some (.slice e)) (hinfo : (P.info? e).map (fun i => (i.zero, i.size, i.bytes)) = some (some z, 1, bytes)) (hz : z.cells.size = 1)
    (v : Value) (n : Nat) (xs : List Value) (vx : Value) (l : List ByteArray) (hs : a.eval s = v) (hx : a.eval x = vx) (hown : w.ownsRow base e 1 v n xs) (hl' : Strs w vx l)
    (hl : (n + l.length) * bytes ≤ 140737488355328) (hn : n + l.length < 140737488355328) (hbase : base ≤ w.heap.size)
    (h : ∀ A cap w', w'.ownsRow base e 1 (.slice A (n + l.length) cap) (n + l.length) (xs ++ l.map Value.string) → w.grownBy w' v.ownBlock → K (a.put o.dst (.slice A (n + l.length) cap)) w') :
    if Region.wanted o (yielded ops a.tmps) = true then Oper.wp P o a w K Q else E :=
  step_append_row base hgd s x t e z bytes ho ht hinfo hz v n xs Value.string (fun _ => rfl) vx l hs hx hown hl' hl hn hbase h
end
end Go.Proofs.Ytcamhpjgpjihhaa
