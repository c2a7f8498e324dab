/- Tags: the program's Match. -/
import Derived.Test.YtahopbjoaoiknaaTags2
namespace Go.Proofs.Ytahopbjoaoiknaa
set_option linter.unusedVariables false
set_option linter.unusedSimpArgs false
open Go.RowKit

theorem all_not (al l : List ByteArray) : (al.all fun t => hasL l t) = !(al.any fun s => !hasL l s) := by
  induction al with
  | nil => rfl
  | cons a al ih => rw [List.all_cons, List.any_cons, ih, Bool.not_or, Bool.not_not]

set_option maxHeartbeats 1000000 in
theorem prog_match (cs : List Value) (al an no : List ByteArray) (v : Value) (l : List ByteArray) (w : World) (h : FilR w cs al an no) (hv : Strs w v l) :
    Calls Try.prog 11 #[.agg cs.toArray, v] w fun e w' => e = .returned (.bool (matchL al an no l)) ∧ Kp (fun _ => False) w w' := by
  obtain ⟨a, y, n, rfl, ha, hy, hn⟩ := h
  obtain ⟨aA, ac, e, _⟩ := ha.one
  subst e
  obtain ⟨yA, yc, e, _⟩ := hy.one
  subst e
  obtain ⟨nA, nc, e, _⟩ := hn.one
  subst e
  obtain ⟨vA, vc, e, _⟩ := hv.one
  subst e
  have b0 := ((Blk.new w #[.slice aA al.length ac, .slice yA an.length yc, .slice nA no.length nc] 24).alloc (.cells #[.slice vA l.length vc] 22)).alloc (.cells #[.func (Fn.func 29) #[] #[.pointer (some ⟨w.heap.size + 1, 0, none⟩)]] 71)
  have b1 := (Blk.new (w.alloc (.cells #[.slice aA al.length ac, .slice yA an.length yc, .slice nA no.length nc] 24)) #[.slice vA l.length vc] 22).alloc (.cells #[.func (Fn.func 29) #[] #[.pointer (some ⟨w.heap.size + 1, 0, none⟩)]] 71)
  have b2 := Blk.new ((w.alloc (.cells #[.slice aA al.length ac, .slice yA an.length yc, .slice nA no.length nc] 24)).alloc (.cells #[.slice vA l.length vc] 22)) #[.func (Fn.func 29) #[] #[.pointer (some ⟨w.heap.size + 1, 0, none⟩)]] 71
  have kk := (((Kp.refl (fun _ => False) w).alloc (.cells #[.slice aA al.length ac, .slice yA an.length yc, .slice nA no.length nc] 24)).alloc (.cells #[.slice vA l.length vc] 22)).alloc (.cells #[.func (Fn.func 29) #[] #[.pointer (some ⟨w.heap.size + 1, 0, none⟩)]] 71)
  rw [show (w.alloc (.cells #[.slice aA al.length ac, .slice yA an.length yc, .slice nA no.length nc] 24)).heap.size = w.heap.size + 1 by simp] at b1
  rw [show ((w.alloc (.cells #[.slice aA al.length ac, .slice yA an.length yc, .slice nA no.length nc] 24)).alloc (.cells #[.slice vA l.length vc] 22)).heap.size = w.heap.size + 1 + 1 by simp] at b2
  have K := Keeps.kp kk
  replace ha := ha.keeps K
  replace hy := hy.keeps K
  replace hn := hn.keeps K
  replace hv := hv.keeps K
  clear K
  obtain ⟨q, hq⟩ : ∃ q, Hid (matchL al an no l = q) := ⟨_, rfl⟩
  rw [hq.out]
  go_enter Try.func11, Try.ntmps11
  go_wp2_with fail
  generalize ((w.alloc (.cells #[.slice aA al.length ac, .slice yA an.length yc, .slice nA no.length nc] 24)).alloc (.cells #[.slice vA l.length vc] 22)).alloc (.cells #[.func (Fn.func 29) #[] #[.pointer (some ⟨w.heap.size + 1, 0, none⟩)]] 71) = W at *
  have c1 : W.cell? ⟨w.heap.size + 1, 0, none⟩ = some (.slice vA l.length vc) := (b1.cell 0).trans rfl
  have c2 : W.cell? ⟨w.heap.size + 1 + 1, 0, none⟩ = some (.func (Fn.func 29) #[] #[.pointer (some ⟨w.heap.size + 1, 0, none⟩)]) := (b2.cell 0).trans rfl
  have d1 : W.cell? ⟨w.heap.size, 1, none⟩ = some (.slice yA an.length yc) := (b0.cell 1).trans rfl
  have d2 : W.cell? ⟨w.heap.size, 2, none⟩ = some (.slice nA no.length nc) := (b0.cell 2).trans rfl
  have HA := Lib.hid (cont_func_lacks (.pointer (some ⟨w.heap.size + 1 + 1, 0, none⟩)) (fun s => !hasL l s) _ al W ha fun s _ => clos_lacks s _ _ _ l W hv c1 c2)
  have HN := Lib.hid (cont_func_has (.pointer (some ⟨w.heap.size + 1, 0, none⟩)) (fun s => hasL l s) _ no W hn fun s _ => clos_has s _ _ l W hv c1)
  have HY := Lib.hid (cont_func_has (.pointer (some ⟨w.heap.size + 1, 0, none⟩)) (fun s => hasL l s) _ an W hy fun s _ => clos_has s _ _ l W hv c1)
  clear ha hy hn hv b0 b1 b2
  refine HA.out.mono ?_
  rintro e w1 ⟨rfl, rfl⟩
  have hm := hq.out
  unfold matchL at hm
  rw [all_not] at hm
  clear hq HA
  generalize (al.any fun s => !hasL l s) = qa at *
  cases qa
  case true =>
    obtain rfl : q = false := by rw [← hm]; rfl
    clear hm HN HY
    go_wp2_with fail
    go_ret
    exact ⟨rfl, kk⟩
  have hm := Lib.hid hm
  go_wp2_with fail
  refine HN.out.mono ?_
  rintro e w1 ⟨rfl, rfl⟩
  have hm := hm.out
  generalize (no.any fun s => hasL l s) = qn at *
  cases qn
  case true =>
    obtain rfl : q = false := by rw [← hm]; rfl
    clear hm HN HY
    go_wp2_with fail
    go_ret
    exact ⟨rfl, kk⟩
  clear HN
  have he : Hid (an.isEmpty = decide ((an.length : Int) = 0)) := by
    unfold Hid
    cases an <;> simp
    omega
  by_cases hz : an.length = 0
  · have e1 : ((an.length : Int) == 0) = true := by simp [hz]
    have hb2 : q = true := by rw [← hm, he.out]; simp [hz]
    subst hb2
    clear hm hz HY
    go_wp2_with fail
    go_ret
    exact ⟨rfl, kk⟩
  · have e1 : ((an.length : Int) == 0) = false := beq_eq_false_iff_ne.2 (by omega)
    have hb2 : q = (an.any fun t => hasL l t) := by rw [← hm, he.out, decide_eq_false (by omega)]; simp
    have hb2 := Lib.hid hb2
    clear hm
    go_wp2_with fail
    refine HY.out.mono ?_
    rintro e w1 ⟨rfl, rfl⟩
    clear HY
    go_wp2_with fail
    go_ret
    exact ⟨by rw [hb2.out]; rfl, kk⟩
end Go.Proofs.Ytahopbjoaoiknaa
