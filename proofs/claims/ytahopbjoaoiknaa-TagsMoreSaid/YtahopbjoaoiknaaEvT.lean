/- An evaluator over named blocks: appends of rows that are not known cell by cell; a region's operations in parts. Nothing of the program stands here. -/
import Derived.Test.YtahopbjoaoiknaaEv14
namespace Go.Proofs.Ytahopbjoaoiknaa
set_option linter.unusedVariables false
set_option linter.unusedSimpArgs false
open Go.RowKit

theorem evDrawn_append {P : Program} {X : ExtT} {call : CallF} {nt : Nat} {ops : Array Oper} : ∀ (l1 l2 : List Oper) {tm tm1 tm2 : Tr Value} {s s1 s2 : St} {g1 g2 : List (List Nat × List Nat)},
    evDrawn P X call nt ops l1 tm s = some (tm1, s1, g1) → evDrawn P X call nt ops l2 tm1 s1 = some (tm2, s2, g2) → evDrawn P X call nt ops (l1 ++ l2) tm s = some (tm2, s2, g1 ++ g2)
  | [], l2, tm, tm1, tm2, s, s1, s2, g1, g2, h1, h2 => by
    simp only [evDrawn, Option.some.injEq, Prod.mk.injEq] at h1
    obtain ⟨rfl, rfl, rfl⟩ := h1
    exact h2
  | o :: l1, l2, tm, tm1, tm2, s, s1, s2, g1, g2, h1, h2 => by
    simp only [evDrawn] at h1
    split at h1
    · cases h1
    rename_i ta sa ha
    split at h1
    · cases h1
    rename_i tb sb gb hb
    simp only [Option.some.injEq, Prod.mk.injEq] at h1
    obtain ⟨rfl, rfl, rfl⟩ := h1
    simp only [List.cons_append, evDrawn, ha, evDrawn_append l1 l2 hb h2]
theorem evDrawn_one {P : Program} {X : ExtT} {call : CallF} {nt : Nat} {ops : Array Oper} {o : Oper} {tm tm1 : Tr Value} {s s1 : St} (h : evOp1 P X call nt ops o tm { s with rd := [], wr := [] } = some (tm1, s1)) :
    evDrawn P X call nt ops [o] tm s = some (tm1, { s1 with rd := s1.rd ++ s.rd, wr := s1.wr ++ s.wr }, [(s1.rd, s1.wr)]) := by
  simp only [evDrawn, h]

section
variable {P : Program} {t e : TypeId} {i : TypeInfo} {z : Value}
theorem ble_true {a b : Nat} (h : a ≤ b) : Nat.ble a b = true := Nat.ble_eq_true_of_le h
theorem ble_false {a b : Nat} (h : ¬ a ≤ b) : Nat.ble a b = false := by
  cases hq : Nat.ble a b with
  | false => rfl
  | true => exact absurd (Nat.le_of_ble_eq_true hq) h
theorem beq_false' {a b : Nat} (h : a ≠ b) : Nat.beq a b = false := by
  cases hq : Nat.beq a b with
  | false => rfl
  | true => exact absurd (Nat.eq_of_beq_eq_true hq) h
/-- A row that is only read, appended onto what is empty. -/
theorem append_seg {s : St} {ix iy cap : Nat} {cs : List Value} {e' : TypeId} (hu : P.underlying t = some (.slice e)) (hi : P.info? e = some i) (hz : i.zero = some z) (hzf : flat z = true) (hzl : Nat.beq z.cells.toList.length i.size = true) (h1 : i.size = 1)
    (hx : s.h.get ix = some (.cells [] e')) (hy : s.h.get iy = some (.seg cs)) (h0 : cs.length ≠ 0) (hone : cs.all (·.oneCell') = true) (hm : cs.length ≤ maxLen) (hb : cs.length * i.bytes ≤ 140737488355328) (hn : s.h.get (2 * s.c) = none) :
    evAppend P t t (.slice (some ⟨ix, 0, none⟩) 0 0) (.slice (some ⟨iy, 0, none⟩) cs.length cap) s =
      some (.slice (some ⟨2 * s.c, 0, none⟩) cs.length cs.length, { s with h := s.h.set (2 * s.c) (.loose cs e), c := s.c + 1, wr := 2 * s.c :: s.wr, rd := ix :: iy :: s.rd }) := by
  have hlt : Nat.blt 0 i.size = true := by rw [h1]; rfl
  have hsrc : srcOf P i.size t (.slice (some ⟨iy, 0, none⟩) cs.length cap) s = some (cs.length, cs, s.look iy) := by
    obtain ⟨k, hk⟩ : ∃ k, cs.length = k + 1 := ⟨cs.length - 1, by omega⟩
    have hr : rowAt s iy = some (cs, s.look iy) := by unfold rowAt; simp only [hy, AObj.row]
    rw [h1, hk]
    unfold srcOf
    simp only [hu, hr, Nat.mul_one, Nat.zero_add, List.drop_zero, hk, ble_true (Nat.le_refl _)]
    rw [← hk, List.take_length, hone]
    rfl
  unfold evAppend
  simp only [hu, hi, hz, hzf, hzl, hlt, Bool.and_self, hsrc, ble_true (Nat.le_refl 0), Nat.zero_add, ble_true hm, ble_true hb, beq_false' h0, show (s.look iy).h = s.h from rfl, hx, ble_false (show ¬ cs.length ≤ 0 by omega), Nat.zero_mul, List.length_nil, List.drop_nil, List.take_nil, evGrow, St.mk', St.look, hn, List.nil_append]
/-- One more behind a row that is full. -/
theorem append_full {s : St} {ia iv : Nat} {cs : List Value} {v : Value} {ev : TypeId} (hu : P.underlying t = some (.slice e)) (hi : P.info? e = some i) (hz : i.zero = some z) (hzf : flat z = true) (hzl : Nat.beq z.cells.toList.length i.size = true) (h1 : i.size = 1)
    (hx : s.h.get ia = some (.loose cs e)) (hy : s.h.get iv = some (.cells [v] ev)) (hone : v.oneCell' = true) (hm : cs.length + 1 ≤ maxLen) (hb : (cs.length + 1) * i.bytes ≤ 140737488355328) (hn : s.h.get (2 * s.c) = none) :
    evAppend P t t (.slice (some ⟨ia, 0, none⟩) cs.length cs.length) (.slice (some ⟨iv, 0, none⟩) 1 1) s =
      some (.slice (some ⟨2 * s.c, 0, none⟩) (cs.length + 1) (cs.length + 1), { s with h := (s.h.set (2 * s.c) (.loose (cs ++ [v]) e)).set ia .dead, c := s.c + 1, wr := ia :: 2 * s.c :: s.wr, rd := iv :: s.rd }) := by
  have hlt : Nat.blt 0 i.size = true := by rw [h1]; rfl
  have hsrc : srcOf P i.size t (.slice (some ⟨iv, 0, none⟩) 1 1) s = some (1, [v], s.look iv) := by
    unfold srcOf rowAt
    rw [hu]
    simp only [hy, AObj.row, h1, Nat.mul_one, Nat.zero_add, List.drop_zero, List.take_succ_cons, List.take_zero, List.all_cons, List.all_nil, hone, List.length_cons, List.length_nil, Bool.and_self]
    rfl
  unfold evAppend
  simp only [hu, hi, hz, hzf, hzl, hlt, Bool.and_self, hsrc, ble_true (Nat.le_refl _), ble_true hm, ble_true hb, show Nat.beq 1 0 = false from rfl, show (s.look iv).h = s.h from rfl, hx, ble_false (show ¬ cs.length + 1 ≤ cs.length by omega)]
  simp only [h1, Nat.mul_one, Nat.beq_refl, Nat.zero_add, Bool.and_self, St.mk', St.look, hn, St.put]
end
end Go.Proofs.Ytahopbjoaoiknaa
