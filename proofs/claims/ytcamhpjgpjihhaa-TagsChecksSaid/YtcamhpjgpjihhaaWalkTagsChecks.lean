/- TagsChecks: which tags, and which filters, may be is the document's: the walk. (Written by gen_checks.py, a program of this session's own.) -/
import Derived.Test.YtcamhpjgpjihhaaWalkTagsMatch
namespace Go.Proofs.Ytcamhpjgpjihhaa
open Go.RowKit
attribute [local go_sem ↓] load24
attribute [local go_sem] rowOf_new rowOf_drew isPtr0_ptr blkOf_ptr

set_option maxHeartbeats 4000000 in
theorem tagsChecks_walk (v0 v1 : Value) (w : World) (h0 : Came Try.prog w 22 v0) (h1 : Came Try.prog w 24 v1) :
    Calls Try.prog 8 #[v0, v1] w fun e w' => e = .returned (.bool true) ∧ Below w.heap.size w w' := by
  obtain ⟨cs, al, an, no, rfl, hF⟩ := came_fil h1
  obtain ⟨l, hl⟩ := came_strs h0
  clear h0 h1
  obtain ⟨A, cap, rfl, _⟩ := hl.one
  obtain ⟨a, y, n, rfl, ha, hy, hn⟩ := id hF
  have hB := Blk.new w #[a, y, n] 24
  have kk := (Kp.refl (fun _ => False) w).alloc (.cells #[a, y, n] 24)
  have hlH := Lib.hid hl
  have hFH := Lib.hid hF
  clear hl hF
  go_enter Try.func8, Try.ntmps8
  go_wp2_with fail
  refine (tags_alive _).mono ?_
  rintro e w1 ⟨rfl, k1⟩
  have kk := kk.trans k1
  have hB := hB.kp k1 id
  clear k1
  go_wp2_with fail
  refine (ref_fine _ _ _ (hlH.out.keeps (Keeps.kp kk))).mono ?_
  rintro e w2 ⟨rfl, k2⟩
  have kk := kk.trans k2
  have hB := hB.kp k2 id
  have c0 := (hB.cell 0).trans rfl
  clear k2
  obtain ⟨x, hx⟩ : ∃ x, okL l = x := ⟨_, rfl⟩
  rw [hx]
  have hx := Lib.hid hx
  obtain ⟨xa, ea⟩ : ∃ x, Hid (okL al = x) := ⟨_, rfl⟩
  obtain ⟨xy, ey⟩ : ∃ x, Hid (okL an = x) := ⟨_, rfl⟩
  obtain ⟨xn, en⟩ : ∃ x, Hid (okL no = x) := ⟨_, rfl⟩
  go_wp2_with fail
  refine (ref_fine _ _ _ (ha.keeps (Keeps.kp kk))).mono ?_
  rintro e w3 ⟨rfl, k2⟩
  rw [ea.out]
  have kk := kk.trans k2
  have hB := hB.kp k2 id
  clear k2
  have c1 := (hB.cell 1).trans rfl
  cases xa
  case false =>
    have hr := hB.row
    have hck : Hid (checkN l = if x = true then 0 else 30) := by unfold Hid checkN; rw [hx.out]
    have hrt : Hid (rightN al an no = 30) := by unfold Hid rightN; rw [ea.out, ey.out, en.out]; rfl
    have HC := Lib.hid (prog_check _ l _ (hlH.out.keeps (Keeps.kp kk)))
    cases x
    all_goals
      have hck2 := hck.out
      simp only [reduceCtorEq, if_true, if_false] at hck2
      have HC2 := HC.out
      rw [hck2] at HC2
      have HC2 := Lib.hid HC2
      clear hck2
      go_wp2_with fail
      refine HC2.out.mono ?_
      rintro e w9 ⟨rfl, rfl⟩
      go_wp2_with fail
      try (refine HC2.out.mono ?_; rintro e w9 ⟨rfl, rfl⟩; go_wp2_with fail)
      refine (prog_right _ _ _ _ _ (hFH.out.keeps (Keeps.kp kk))).mono ?_
      rintro e w10 ⟨rfl, k2⟩
      rw [hrt.out]
      have kk := kk.trans k2
      have hB := hB.kp k2 id
      have hr := hB.row
      clear k2 HC HC2
      go_wp2_with fail
      refine (prog_right _ _ _ _ _ (hFH.out.keeps (Keeps.kp kk))).mono ?_
      rintro e w11 ⟨rfl, k2⟩
      rw [hrt.out]
      have kk := kk.trans k2
      clear k2 hB hr
      go_wp2_with fail
      go_ret
      exact ⟨rfl, kk.below⟩
  go_wp2_with fail
  refine (ref_fine _ _ _ (hy.keeps (Keeps.kp kk))).mono ?_
  rintro e w4 ⟨rfl, k2⟩
  rw [ey.out]
  have kk := kk.trans k2
  have hB := hB.kp k2 id
  clear k2
  have c2 := (hB.cell 2).trans rfl
  cases xy
  case false =>
    have hr := hB.row
    have hck : Hid (checkN l = if x = true then 0 else 30) := by unfold Hid checkN; rw [hx.out]
    have hrt : Hid (rightN al an no = 30) := by unfold Hid rightN; rw [ea.out, ey.out, en.out]; rfl
    have HC := Lib.hid (prog_check _ l _ (hlH.out.keeps (Keeps.kp kk)))
    cases x
    all_goals
      have hck2 := hck.out
      simp only [reduceCtorEq, if_true, if_false] at hck2
      have HC2 := HC.out
      rw [hck2] at HC2
      have HC2 := Lib.hid HC2
      clear hck2
      go_wp2_with fail
      refine HC2.out.mono ?_
      rintro e w9 ⟨rfl, rfl⟩
      go_wp2_with fail
      try (refine HC2.out.mono ?_; rintro e w9 ⟨rfl, rfl⟩; go_wp2_with fail)
      refine (prog_right _ _ _ _ _ (hFH.out.keeps (Keeps.kp kk))).mono ?_
      rintro e w10 ⟨rfl, k2⟩
      rw [hrt.out]
      have kk := kk.trans k2
      have hB := hB.kp k2 id
      have hr := hB.row
      clear k2 HC HC2
      go_wp2_with fail
      refine (prog_right _ _ _ _ _ (hFH.out.keeps (Keeps.kp kk))).mono ?_
      rintro e w11 ⟨rfl, k2⟩
      rw [hrt.out]
      have kk := kk.trans k2
      clear k2 hB hr
      go_wp2_with fail
      go_ret
      exact ⟨rfl, kk.below⟩
  go_wp2_with fail
  refine (ref_fine _ _ _ (hn.keeps (Keeps.kp kk))).mono ?_
  rintro e w5 ⟨rfl, k2⟩
  rw [en.out]
  have kk := kk.trans k2
  have hB := hB.kp k2 id
  clear k2
  cases xn
  case false =>
    have hr := hB.row
    have hck : Hid (checkN l = if x = true then 0 else 30) := by unfold Hid checkN; rw [hx.out]
    have hrt : Hid (rightN al an no = 30) := by unfold Hid rightN; rw [ea.out, ey.out, en.out]; rfl
    have HC := Lib.hid (prog_check _ l _ (hlH.out.keeps (Keeps.kp kk)))
    cases x
    all_goals
      have hck2 := hck.out
      simp only [reduceCtorEq, if_true, if_false] at hck2
      have HC2 := HC.out
      rw [hck2] at HC2
      have HC2 := Lib.hid HC2
      clear hck2
      go_wp2_with fail
      refine HC2.out.mono ?_
      rintro e w9 ⟨rfl, rfl⟩
      go_wp2_with fail
      try (refine HC2.out.mono ?_; rintro e w9 ⟨rfl, rfl⟩; go_wp2_with fail)
      refine (prog_right _ _ _ _ _ (hFH.out.keeps (Keeps.kp kk))).mono ?_
      rintro e w10 ⟨rfl, k2⟩
      rw [hrt.out]
      have kk := kk.trans k2
      have hB := hB.kp k2 id
      have hr := hB.row
      clear k2 HC HC2
      go_wp2_with fail
      refine (prog_right _ _ _ _ _ (hFH.out.keeps (Keeps.kp kk))).mono ?_
      rintro e w11 ⟨rfl, k2⟩
      rw [hrt.out]
      have kk := kk.trans k2
      clear k2 hB hr
      go_wp2_with fail
      go_ret
      exact ⟨rfl, kk.below⟩
  have hr := hB.row
  have hck : Hid (checkN l = if x = true then 0 else 30) := by unfold Hid checkN; rw [hx.out]
  have hrt : Hid (rightN al an no = 0) := by unfold Hid rightN; rw [ea.out, ey.out, en.out]; rfl
  have HC := Lib.hid (prog_check _ l _ (hlH.out.keeps (Keeps.kp kk)))
  cases x
  all_goals
    have hck2 := hck.out
    simp only [reduceCtorEq, if_true, if_false] at hck2
    have HC2 := HC.out
    rw [hck2] at HC2
    have HC2 := Lib.hid HC2
    clear hck2
    go_wp2_with fail
    refine HC2.out.mono ?_
    rintro e w9 ⟨rfl, rfl⟩
    go_wp2_with fail
    try (refine HC2.out.mono ?_; rintro e w9 ⟨rfl, rfl⟩; go_wp2_with fail)
    refine (prog_right _ _ _ _ _ (hFH.out.keeps (Keeps.kp kk))).mono ?_
    rintro e w10 ⟨rfl, k2⟩
    rw [hrt.out]
    have kk := kk.trans k2
    have hB := hB.kp k2 id
    have hr := hB.row
    clear k2 HC HC2
    go_wp2_with fail
    go_ret
    exact ⟨rfl, kk.below⟩
end Go.Proofs.Ytcamhpjgpjihhaa
