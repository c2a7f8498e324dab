/- TagsMore: a tag more, and what a filter matches then: the walk. -/
import Derived.Test.YtahopbjoaoiknaaMoreT
namespace Go.Proofs.Ytahopbjoaoiknaa
set_option linter.unusedVariables false
set_option linter.unusedSimpArgs false
open Go.RowKit
attribute [local go_sem ↓] load24
attribute [local go_sem] rowOf_new rowOf_drew isPtr0_ptr blkOf_ptr
theorem hasL_app {l : List ByteArray} {x t : ByteArray} (h : hasL l x = true) : hasL (l ++ [t]) x = true := by
  unfold hasL at h ⊢
  rw [List.any_append, h, Bool.true_or]
theorem match_nil (l : List ByteArray) : matchL [] [] [] l = true := by simp [matchL]
theorem match_more {al an l : List ByteArray} {t : ByteArray} (h : matchL al an [] l = true) : matchL al an [] (l ++ [t]) = true := by
  simp only [matchL, Bool.and_eq_true, Bool.or_eq_true, List.any_nil, Bool.not_false, and_true, List.all_eq_true] at h ⊢
  obtain ⟨h1, h2⟩ := h
  refine ⟨fun x hx => hasL_app (h1 x hx), h2.imp_right fun h => ?_⟩
  rw [List.any_eq_true] at h ⊢
  obtain ⟨x, hx, hh⟩ := h
  exact ⟨x, hx, hasL_app hh⟩
theorem match_both (al an no l : List ByteArray) (t : ByteArray) : matchL (al ++ [t]) an (no ++ [t]) l = false := by
  unfold matchL
  cases hq : hasL l t <;> simp [hq]
noncomputable def tailM : Code := match bodyM with
  | .seq _ (.seq _ (.seq _ c)) => c
  | _ => .skip
noncomputable def tail8 : Code := match tailM with
  | .seq _ (.seq _ (.seq _ c)) => c
  | _ => .skip
theorem tail_eq : tailM = regsCode regs57 tail8 := by kernel_rfl

set_option maxHeartbeats 2000000 in
theorem tagsMore_walk (v0 v1 v2 : Value) (w : World) (h0 : Came Try.prog w 24 v0) (h1 : Came Try.prog w 22 v1) (h2 : Came Try.prog w 9 v2) :
    Calls Try.prog 3 #[v0, v1, v2] w fun e w' => e = .returned (.bool true) ∧ Below w.heap.size w w' := by
  obtain ⟨cs, al, an, no, rfl, hF⟩ := came_fil h0
  obtain ⟨l, hl⟩ := came_strs h1
  clear h0 h1
  obtain ⟨A, cap, rfl, _⟩ := hl.one
  obtain ⟨a, y, n, rfl, ha, hy, hn⟩ := id hF
  obtain ⟨aA, ac, rfl, -, -, -⟩ := ha.one
  obtain ⟨yA, yc, rfl, -, -, -⟩ := hy.one
  obtain ⟨nA, nc, rfl, -, -, -⟩ := hn.one
  go_enter Try.func3, Try.ntmps3
  change Code.wp Try.prog (.seq _ (.seq (.seq _ _) (.seq (.seq _ _) tailM))) _ _ _
  generalize htl : tailM = tl
  obtain ⟨tt, rfl, htt⟩ := Came.string Try.underlying9 h2
  have hB := Blk.new w #[.slice aA al.length ac, .slice yA an.length yc, .slice nA no.length nc] 24
  have kk := (Kp.refl (fun _ => False) w).alloc (.cells #[.slice aA al.length ac, .slice yA an.length yc, .slice nA no.length nc] 24)
  go_wp2_with fail
  refine (tags_alive _).mono ?_
  rintro e w1 ⟨rfl, k1⟩
  have kk := kk.trans k1
  have hB := hB.kp k1 id
  have c0 := (hB.cell 0).trans rfl
  have hlH := Lib.hid hl
  have hFH := Lib.hid hF
  clear hl hF k1
  go_wp2_with fail
  refine (strs_great _ _ _ (hlH.out.keeps (Keeps.kp kk))).mono ?_
  rintro e w2 ⟨g, rfl, hg1, k2⟩
  have kk := kk.trans k2
  have hB := hB.kp k2 id
  have c0 := (hB.cell 0).trans rfl
  clear k2
  cases g
  case true =>
    go_wp2_with fail
    go_ret
    exact ⟨rfl, kk.below⟩
  go_wp2_with fail
  refine (strs_great _ _ _ (ha.keeps (Keeps.kp kk))).mono ?_
  rintro e w3 ⟨g, rfl, hg2, k2⟩
  have kk := kk.trans k2
  have hB := hB.kp k2 id
  have c1 := (hB.cell 1).trans rfl
  clear k2
  cases g
  case true =>
    go_wp2_with fail
    go_ret
    exact ⟨rfl, kk.below⟩
  go_wp2_with fail
  refine (strs_great _ _ _ (hy.keeps (Keeps.kp kk))).mono ?_
  rintro e w4 ⟨g, rfl, hg3, k2⟩
  have kk := kk.trans k2
  have hB := hB.kp k2 id
  have c2 := (hB.cell 2).trans rfl
  clear k2
  cases g
  case true =>
    go_wp2_with fail
    go_ret
    exact ⟨rfl, kk.below⟩
  go_wp2_with fail
  refine (strs_great _ _ _ (hn.keeps (Keeps.kp kk))).mono ?_
  rintro e w5 ⟨g, rfl, hg4, k2⟩
  have kk := kk.trans k2
  have hB := hB.kp k2 id
  clear k2
  cases g
  case true =>
    go_wp2_with fail
    go_ret
    exact ⟨rfl, kk.below⟩
  generalize w.heap.size = bf at *
  go_wp2_with fail
  have K := Keeps.kp kk
  have hl5 := hlH.out.keeps K
  have gl := (hg1 trivial).1
  have ga := (hg2 trivial).1
  have ha' := ha.keeps K
  have hy' := hy.keeps K
  have hlH' := Lib.hid hl5
  have gn := (hg4 trivial).1
  subst htl
  rw [tail_eq]
  refine more_regs hl5 (ha.keeps K) (hy.keeps K) (hn.keeps K) gl ga gn hB ?_
  clear hlH hFH hl5 gl ga gn hg1 hg2 hg3 hg4 hB c0 c1 c2 K
  intro u w6 b8 b9 vA vN e1 e8 e9 hv7 hB8 hB9 hvA hvN k6
  have kk := kk.trans k6
  have d80 := (hB8.cell 0).trans rfl
  have d81 := (hB8.cell 1).trans rfl
  have d82 := (hB8.cell 2).trans rfl
  have d90 := (hB9.cell 0).trans rfl
  have d91 := (hB9.cell 1).trans rfl
  have d92 := (hB9.cell 2).trans rfl
  generalize e7 : u 7 = v7 at *
  rw [show (List.range 77).map u = [u 0, u 1, u 2, u 3, u 4, u 5, u 6, u 7, u 8, u 9, u 10, u 11, u 12, u 13, u 14, u 15, u 16, u 17, u 18, u 19, u 20, u 21, u 22, u 23, u 24, u 25, u 26, u 27, u 28, u 29, u 30, u 31, u 32, u 33, u 34, u 35, u 36, u 37, u 38, u 39, u 40, u 41, u 42, u 43, u 44, u 45, u 46, u 47, u 48, u 49, u 50, u 51, u 52, u 53, u 54, u 55, u 56, u 57, u 58, u 59, u 60, u 61, u 62, u 63, u 64, u 65, u 66, u 67, u 68, u 69, u 70, u 71, u 72, u 73, u 74, u 75, u 76] from rfl, e1, e7, e8, e9]
  change Code.wp Try.prog (.seq _ .ret) _ _ _
  have hl6 := hlH'.out.keeps (Keeps.kp k6)
  have hF0 : FilR w6 [.slice none 0 0, .slice none 0 0, .slice none 0 0] [] [] [] := ⟨_, _, _, rfl, RowN.nil _ _ _, RowN.nil _ _ _, RowN.nil _ _ _⟩
  have hm1 := Lib.hid (prog_match _ _ _ _ _ _ _ hF0 hl6)
  have hF1 := Lib.hid (show FilR w6 [.slice aA al.length ac, .slice yA an.length yc, .slice none 0 0] al an [] from ⟨_, _, _, rfl, ha'.keeps (Keeps.kp k6), hy'.keeps (Keeps.kp k6), RowN.nil _ _ _⟩)
  have hF2 := Lib.hid (show FilR w6 [vA, .slice yA an.length yc, vN] (al ++ [tt]) an (no ++ [tt]) from ⟨_, _, _, rfl, hvA, hy'.keeps (Keeps.kp k6), hvN⟩)
  have hl6 := Lib.hid hl6
  have hv7 := Lib.hid hv7
  obtain ⟨xA, xc, rfl, -⟩ := hvA.one
  obtain ⟨xN, xd, rfl, -⟩ := hvN.one
  obtain ⟨xB, xe, rfl, -⟩ := hv7.out.one
  clear ha' hy' hvA hvN hF0 hlH'
  generalize (al ++ [tt]).length = mA at *
  generalize (no ++ [tt]).length = mN at *
  generalize (l ++ [tt]).length = mL at *
  go_wp2_with fail
  refine hm1.out.mono ?_
  rintro e w7 ⟨rfl, k7⟩
  rw [match_nil]
  have kk := kk.trans k7
  have hB8 := hB8.kp k7 id
  have hB9 := hB9.kp k7 id
  have d80 := (hB8.cell 0).trans rfl
  have d81 := (hB8.cell 1).trans rfl
  have d82 := (hB8.cell 2).trans rfl
  go_wp2_with fail
  refine (prog_match [.slice aA al.length ac, .slice yA an.length yc, .slice none 0 0] _ _ _ _ _ _ (hF1.out.keeps (Keeps.kp k7)) (hl6.out.keeps (Keeps.kp k7))).mono ?_
  rintro e w8 ⟨rfl, k8⟩
  have kk := kk.trans k8
  have k68 := k7.trans k8
  have hB8 := hB8.kp k8 id
  have hB9 := hB9.kp k8 id
  have d80 := (hB8.cell 0).trans rfl
  have d81 := (hB8.cell 1).trans rfl
  have d82 := (hB8.cell 2).trans rfl
  have d90 := (hB9.cell 0).trans rfl
  have d91 := (hB9.cell 1).trans rfl
  have d92 := (hB9.cell 2).trans rfl
  cases hq : matchL al an [] l
  case false =>
    go_wp2_with fail
    refine (prog_match [.slice xA mA xc, .slice yA an.length yc, .slice xN mN xd] _ _ _ _ _ _ (hF2.out.keeps (Keeps.kp k68)) (hl6.out.keeps (Keeps.kp k68))).mono ?_
    rintro e w9 ⟨rfl, k9⟩
    rw [match_both]
    have kk := kk.trans k9
    go_wp2_with fail
    go_ret
    exact ⟨rfl, kk.below⟩
  go_wp2_with fail
  refine (prog_match [.slice aA al.length ac, .slice yA an.length yc, .slice none 0 0] _ _ _ _ _ _ (hF1.out.keeps (Keeps.kp k68)) (hv7.out.keeps (Keeps.kp k68))).mono ?_
  rintro e w9 ⟨rfl, k9⟩
  rw [match_more hq]
  have kk := kk.trans k9
  have k69 := k68.trans k9
  have hB9 := hB9.kp k9 id
  have d90 := (hB9.cell 0).trans rfl
  have d91 := (hB9.cell 1).trans rfl
  have d92 := (hB9.cell 2).trans rfl
  go_wp2_with fail
  refine (prog_match [.slice xA mA xc, .slice yA an.length yc, .slice xN mN xd] _ _ _ _ _ _ (hF2.out.keeps (Keeps.kp k69)) (hl6.out.keeps (Keeps.kp k69))).mono ?_
  rintro e w10 ⟨rfl, k10⟩
  rw [match_both]
  have kk := kk.trans k10
  go_wp2_with fail
  go_ret
  exact ⟨rfl, kk.below⟩
end Go.Proofs.Ytahopbjoaoiknaa
