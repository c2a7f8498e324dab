/- The program's cursors and the reference's: what they have in common. Plain lists. -/
import Derived.Test.YtcamhpjgpjihhaaRf6
namespace Go.Proofs.Ytcamhpjgpjihhaa
set_option linter.unusedVariables false
set_option linter.unusedSimpArgs false
open Go.RowKit

/-- The program's cursor of a reference's. -/
def curOf (r : RC) : Cur :=
  { owner := r.owner, ask := r.ask, page := (r.ends.length : Int) - 1,
    lh := (r.ends.getD (r.ends.length - 1) (false, 0, 0)).1, ld := (r.ends.getD (r.ends.length - 1) (false, 0, 0)).2.1, li := (r.ends.getD (r.ends.length - 1) (false, 0, 0)).2.2,
    ah := if r.ends.length ≤ 1 then false else (r.ends.getD (r.ends.length - 2) (false, 0, 0)).1, ad := if r.ends.length ≤ 1 then 0 else (r.ends.getD (r.ends.length - 2) (false, 0, 0)).2.1, ai := if r.ends.length ≤ 1 then 0 else (r.ends.getD (r.ends.length - 2) (false, 0, 0)).2.2,
    used := r.used }

def LR (l : CurL) (rs : List RC) : Prop := l.map (fun p => (p.1, p.2.2)) = rs.map fun r => (r.n, curOf r)
theorem LR.len {l : CurL} {rs : List RC} (h : LR l rs) : l.length = rs.length := by have := congrArg List.length h; simpa using this
theorem LR.nil : LR [] [] := rfl
theorem LR.cons {p : Int × Nat × Cur} {l : CurL} {r : RC} {rs : List RC} : LR (p :: l) (r :: rs) ↔ (p.1 = r.n ∧ p.2.2 = curOf r) ∧ LR l rs := by
  unfold LR
  simp [Prod.ext_iff]
theorem LR.keys {l : CurL} {rs : List RC} (h : LR l rs) : l.map (·.1) = rs.map (·.n) := by
  have := congrArg (List.map Prod.fst) h
  simpa [List.map_map, Function.comp_def] using this
theorem LR.snoc {l : CurL} {rs : List RC} (h : LR l rs) {n : Int} {b : Nat} {c : Cur} {r : RC} (hn : n = r.n) (hc : c = curOf r) : LR (l ++ [(n, b, c)]) (rs ++ [r]) := by
  unfold LR at *
  rw [List.map_append, List.map_append, h, hn, hc]
  rfl
theorem LR.filter {S : Cur → Bool} {S' : RC → Bool} (hS : ∀ r, S (curOf r) = S' r) : ∀ {l : CurL} {rs : List RC}, LR l rs → LR (l.filter fun p => S p.2.2) (rs.filter S')
  | [], [], _ => rfl
  | [], _ :: _, h => by have := h.len; simp at this
  | _ :: _, [], h => by have := h.len; simp at this
  | p :: l, r :: rs, h => by
    obtain ⟨⟨h1, h2⟩, h3⟩ := LR.cons.1 h
    have ih := LR.filter hS h3
    rw [List.filter_cons, List.filter_cons, h2, hS]
    split
    · exact LR.cons.2 ⟨⟨h1, h2⟩, ih⟩
    · exact ih
theorem LR.pins {S : Cur → Bool} {S' : RC → Bool} (hS : ∀ r, S (curOf r) = S' r) : ∀ {l : CurL} {rs : List RC}, LR l rs → pinsC S l = pinsR S' rs
  | [], [], _ => rfl
  | [], _ :: _, h => by have := h.len; simp at this
  | _ :: _, [], h => by have := h.len; simp at this
  | p :: l, r :: rs, h => by
    obtain ⟨⟨h1, h2⟩, h3⟩ := LR.cons.1 h
    have ih := LR.pins hS h3
    unfold pinsC pinsR at *
    rw [List.filter_cons, List.filter_cons, h2, hS]
    split
    · simp only [List.map_cons, ih, h2]
      rfl
    · exact ih
/-- Where a number's cursor is, in both; or it is in neither. -/
theorem LR.find (n : Int) : ∀ {l : CurL} {rs : List RC}, LR l rs → (lookC l n = none ∧ ∀ r ∈ rs, r.n ≠ n) ∨ ∃ i r b, RAt rs n i r ∧ lookC l n = some (b, curOf r)
  | [], [], _ => .inl ⟨rfl, by simp⟩
  | [], _ :: _, h => by have := h.len; simp at this
  | _ :: _, [], h => by have := h.len; simp at this
  | p :: l, r :: rs, h => by
    obtain ⟨⟨h1, h2⟩, h3⟩ := LR.cons.1 h
    by_cases e : p.1 = n
    · refine .inr ⟨0, r, p.2.1, ⟨by simp, rfl, by rw [← h1]; exact e, fun j hj => absurd hj (by omega)⟩, ?_⟩
      unfold lookC
      simp [e, ← h2]
    · have hr : ¬ r.n = n := by rw [← h1]; exact e
      rcases LR.find n h3 with ⟨g1, g2⟩ | ⟨i, r', b, g1, g2⟩
      · refine .inl ⟨?_, ?_⟩
        · unfold lookC at *
          simp only [List.find?_cons, e, decide_false]
          exact g1
        · intro r' hr'
          rcases List.mem_cons.1 hr' with rfl | hr'
          · exact hr
          · exact g2 r' hr'
      · refine .inr ⟨i + 1, r', b, ⟨by have := g1.lt; simp; omega, by simpa using g1.at_, g1.num, fun j hj hjl => ?_⟩, ?_⟩
        · cases j with
          | zero => simpa using hr
          | succ j =>
            have := g1.fst j (by omega) (by simpa using hjl)
            simpa using this
        · unfold lookC at *
          simp only [List.find?_cons, e, decide_false]
          exact g2
theorem setC_none {l : CurL} {n : Int} (c : Cur) (h : ∀ p ∈ l, p.1 ≠ n) : setC l n c = l := by
  unfold setC
  conv => rhs; rw [← List.map_id l]
  exact List.map_congr_left fun p hp => by simp [h p hp]
theorem delC_none {l : CurL} {n : Int} (h : ∀ p ∈ l, p.1 ≠ n) : delC l n = l := by
  unfold delC
  rw [List.filter_eq_self]
  exact fun p hp => by simpa using h p hp
theorem LR.set {n : Int} : ∀ {l : CurL} {rs : List RC}, LR l rs → (rs.map (·.n)).Nodup → ∀ {i : Nat} {r r' : RC}, RAt rs n i r → r'.n = n → LR (setC l n (curOf r')) (rs.set i r')
  | [], [], _, _, i, r, r', ha, _ => absurd ha.lt (by simp)
  | [], _ :: _, h, _, i, r, r', _, _ => by have := h.len; simp at this
  | _ :: _, [], h, _, i, r, r', _, _ => by have := h.len; simp at this
  | p :: l, r0 :: rs, h, hn, i, r, r', ha, hr' => by
    obtain ⟨⟨h1, h2⟩, h3⟩ := LR.cons.1 h
    simp only [List.map_cons, List.nodup_cons] at hn
    cases i with
    | zero =>
      have e : r0 = r := by simpa using ha.at_
      subst e
      have hp : p.1 = n := h1.trans ha.num
      have hl : ∀ q ∈ l, q.1 ≠ n := by
        intro q hq e
        apply hn.1
        rw [ha.num, ← e, ← h3.keys]
        exact List.mem_map_of_mem hq
      have : setC (p :: l) n (curOf r') = (p.1, p.2.1, curOf r') :: setC l n (curOf r') := by simp [setC, hp]
      rw [this, setC_none _ hl]
      exact LR.cons.2 ⟨⟨by rw [hp, hr'], rfl⟩, h3⟩
    | succ i =>
      have hp : ¬ p.1 = n := by
        have := ha.fst 0 (by omega) (by simp)
        rw [h1]
        simpa using this
      have : setC (p :: l) n (curOf r') = p :: setC l n (curOf r') := by simp [setC, hp]
      rw [this]
      refine LR.cons.2 ⟨⟨h1, h2⟩, LR.set h3 hn.2 (i := i) (r := r) ⟨by have := ha.lt; simpa using this, by simpa using ha.at_, ha.num, fun j hj hjl => ?_⟩ hr'⟩
      have := ha.fst (j + 1) (by omega) (by simp; omega)
      simpa using this
theorem LR.del {n : Int} : ∀ {l : CurL} {rs : List RC}, LR l rs → (rs.map (·.n)).Nodup → ∀ {i : Nat} {r : RC}, RAt rs n i r → LR (delC l n) (rs.eraseIdx i)
  | [], [], _, _, i, r, ha => absurd ha.lt (by simp)
  | [], _ :: _, h, _, i, r, _ => by have := h.len; simp at this
  | _ :: _, [], h, _, i, r, _ => by have := h.len; simp at this
  | p :: l, r0 :: rs, h, hn, i, r, ha => by
    obtain ⟨⟨h1, h2⟩, h3⟩ := LR.cons.1 h
    simp only [List.map_cons, List.nodup_cons] at hn
    cases i with
    | zero =>
      have e : r0 = r := by simpa using ha.at_
      subst e
      have hp : p.1 = n := h1.trans ha.num
      have hl : ∀ q ∈ l, q.1 ≠ n := by
        intro q hq e
        apply hn.1
        rw [ha.num, ← e, ← h3.keys]
        exact List.mem_map_of_mem hq
      have : delC (p :: l) n = delC l n := by simp [delC, hp]
      rw [this, delC_none hl]
      exact h3
    | succ i =>
      have hp : ¬ p.1 = n := by
        have := ha.fst 0 (by omega) (by simp)
        rw [h1]
        simpa using this
      have : delC (p :: l) n = p :: delC l n := by simp [delC, hp]
      rw [this]
      refine LR.cons.2 ⟨⟨h1, h2⟩, LR.del h3 hn.2 (i := i) (r := r) ⟨by have := ha.lt; simpa using this, by simpa using ha.at_, ha.num, fun j hj hjl => ?_⟩⟩
      have := ha.fst (j + 1) (by omega) (by simp; omega)
      simpa using this

theorem right_of (r : RC) (page : Int) (h : 1 ≤ r.ends.length) (h0 : 0 ≤ page) : rightC (curOf r) page = rightR r page := by
  unfold rightC rightR curOf
  simp only
  rw [Bool.eq_iff_iff]
  simp
  omega
theorem behind_of (r : RC) (p : Nat) (hr : rightR r ((p : Int) + 1) = true) (h : 1 ≤ r.ends.length) : behind (curOf r) ((p : Int) + 1) = r.ends.getD p (false, 0, 0) := by
  unfold rightR at hr
  simp at hr
  unfold behind curOf
  simp only
  by_cases e : (p : Int) + 1 = (r.ends.length : Int) - 1
  · rw [if_pos e, if_neg (by omega), if_neg (by omega), if_neg (by omega), show r.ends.length - 2 = p by omega]
  · rw [if_neg e, show r.ends.length - 1 = p by omega]
theorem told_of (r : RC) (p : Nat) (hl : List (Int × Int)) (hr : rightR r ((p : Int) + 1) = true) (h : 1 ≤ r.ends.length) : toldC (curOf r) ((p : Int) + 1) hl = curOf { r with ends := r.ends.take (p + 1) ++ [newEnd r p hl] } := by
  unfold rightR at hr
  simp at hr
  have hp : p < r.ends.length := by omega
  have hl1 : (r.ends.take (p + 1)).length = p + 1 := by simp; omega
  have e1 : (r.ends.take (p + 1) ++ [newEnd r p hl]).length = p + 2 := by simp; omega
  have e2 : (r.ends.take (p + 1) ++ [newEnd r p hl]).getD (p + 1) (false, 0, 0) = newEnd r p hl := by
    rw [List.getD_eq_getElem?_getD, List.getElem?_append_right (by omega), hl1]
    simp
  have e3 : (r.ends.take (p + 1) ++ [newEnd r p hl]).getD p (false, 0, 0) = r.ends.getD p (false, 0, 0) := by
    rw [List.getD_eq_getElem?_getD, List.getElem?_append_left (by omega), List.getElem?_take_of_lt (by omega), ← List.getD_eq_getElem?_getD]
  have hB : curOf { r with ends := r.ends.take (p + 1) ++ [newEnd r p hl] } = { curOf r with page := (p : Int) + 1, lh := (newEnd r p hl).1, ld := (newEnd r p hl).2.1, li := (newEnd r p hl).2.2, ah := (r.ends.getD p (false, 0, 0)).1, ad := (r.ends.getD p (false, 0, 0)).2.1, ai := (r.ends.getD p (false, 0, 0)).2.2 } := by
    unfold curOf
    simp only [e1, show p + 2 - 1 = p + 1 by omega, show p + 2 - 2 = p by omega, e2, e3, if_neg (show ¬ p + 2 ≤ 1 by omega)]
    simp only [Cur.mk.injEq, true_and, and_true]
    push_cast
    omega
  rw [hB]
  have hA : toldA (curOf r) ((p : Int) + 1) = { curOf r with ah := (r.ends.getD p (false, 0, 0)).1, ad := (r.ends.getD p (false, 0, 0)).2.1, ai := (r.ends.getD p (false, 0, 0)).2.2 } := by
    unfold toldA curOf
    simp only
    by_cases e : (p : Int) + 1 = (r.ends.length : Int) - 1
    · rw [if_pos e, show r.ends.length - 2 = p by omega, if_neg (by omega), if_neg (by omega), if_neg (by omega)]
    · rw [if_neg e, show r.ends.length - 1 = p by omega]
  unfold toldC toldB newEnd
  rw [hA]
  cases hl.getLast? with
  | none => rfl
  | some x => rfl

structure PInv (rs : List RC) (m k : Nat) : Prop where
  rise : (rs.map (·.n)).Pairwise (· < ·)
  key : ∀ r ∈ rs, 1 ≤ r.n ∧ r.n ≤ (m : Int)
  used : ∀ r ∈ rs, 0 ≤ r.used ∧ r.used < 4294967296
  ends : ∀ r ∈ rs, 1 ≤ r.ends.length ∧ r.ends.length ≤ k + 1
  small : ∀ r ∈ rs, r.ask.small
  len : rs.length ≤ 8
theorem PInv.filter {rs : List RC} {m k : Nat} (h : PInv rs m k) (S : RC → Bool) : PInv (rs.filter S) m k :=
  have hs : ∀ r ∈ rs.filter S, r ∈ rs := fun r hr => (List.mem_filter.1 hr).1
  ⟨List.Pairwise.sublist (List.filter_sublist.map _) h.rise, fun r hr => h.key r (hs r hr), fun r hr => h.used r (hs r hr), fun r hr => h.ends r (hs r hr), fun r hr => h.small r (hs r hr), Nat.le_trans (List.length_filter_le _ _) h.len⟩
theorem PInv.erase {rs : List RC} {m k : Nat} (h : PInv rs m k) (i : Nat) : PInv (rs.eraseIdx i) m k :=
  have hs : ∀ r ∈ rs.eraseIdx i, r ∈ rs := fun r hr => (List.eraseIdx_sublist rs i).subset hr
  ⟨List.Pairwise.sublist ((List.eraseIdx_sublist rs i).map _) h.rise, fun r hr => h.key r (hs r hr), fun r hr => h.used r (hs r hr), fun r hr => h.ends r (hs r hr), fun r hr => h.small r (hs r hr), Nat.le_trans (List.length_eraseIdx_le _ _) h.len⟩
theorem PInv.mono {rs : List RC} {m k k' : Nat} (h : PInv rs m k) (hk : k ≤ k') : PInv rs m k' :=
  ⟨h.rise, h.key, h.used, fun r hr => ⟨(h.ends r hr).1, by have := (h.ends r hr).2; omega⟩, h.small, h.len⟩
theorem PInv.snoc {rs : List RC} {m k : Nat} (h : PInv rs m k) (hl : rs.length < 8) {r : RC} (hn : r.n = (m : Int) + 1) (hu : 0 ≤ r.used ∧ r.used < 4294967296) (he : r.ends.length = 1) (hs : r.ask.small) : PInv (rs ++ [r]) (m + 1) k := by
  refine ⟨?_, fun q hq => ?_, fun q hq => ?_, fun q hq => ?_, fun q hq => ?_, by simp; omega⟩
  · rw [List.map_append, List.pairwise_append]
    refine ⟨h.rise, by simp, fun a ha b hb => ?_⟩
    obtain ⟨q, hq, rfl⟩ := List.mem_map.1 ha
    simp at hb
    subst hb
    have := (h.key q hq).2
    omega
  all_goals
    rcases List.mem_append.1 hq with hq | hq
  · have := h.key q hq; omega
  · simp at hq; subst hq; omega
  · exact h.used q hq
  · simp at hq; subst hq; exact hu
  · exact h.ends q hq
  · simp at hq; subst hq; omega
  · exact h.small q hq
  · simp at hq; subst hq; exact hs
theorem PInv.set {rs : List RC} {m k : Nat} (h : PInv rs m k) {n : Int} {i : Nat} {r r' : RC} (ha : RAt rs n i r) (hn : r'.n = r.n) (hu : 0 ≤ r'.used ∧ r'.used < 4294967296) (he : 1 ≤ r'.ends.length ∧ r'.ends.length ≤ k + 1) (hs : r'.ask.small) : PInv (rs.set i r') m k := by
  have hr : r ∈ rs := by rw [← ha.at_]; exact List.getElem_mem ha.lt
  have hmap : (rs.set i r').map (·.n) = rs.map (·.n) := by
    rw [List.map_set, hn]
    have : (rs.map (·.n)).set i r.n = rs.map (·.n) := by
      have : r.n = (rs.map (·.n))[i]'(by simpa using ha.lt) := by simp [ha.at_]
      rw [this, List.set_getElem_self]
    exact this
  refine ⟨by rw [hmap]; exact h.rise, fun q hq => ?_, fun q hq => ?_, fun q hq => ?_, fun q hq => ?_, by simpa using h.len⟩
  all_goals
    rcases List.mem_or_eq_of_mem_set hq with hq | rfl
  · exact h.key q hq
  · rw [hn]; exact h.key r hr
  · exact h.used q hq
  · exact hu
  · exact h.ends q hq
  · exact he
  · exact h.small q hq
  · exact hs
theorem RAt.mem {rs : List RC} {n : Int} {i : Nat} {r : RC} (h : RAt rs n i r) : r ∈ rs := by rw [← h.at_]; exact List.getElem_mem h.lt
theorem PInv.nodup {rs : List RC} {m k : Nat} (h : PInv rs m k) : (rs.map (·.n)).Nodup := h.rise.imp fun h e => by omega
end Go.Proofs.Ytcamhpjgpjihhaa
