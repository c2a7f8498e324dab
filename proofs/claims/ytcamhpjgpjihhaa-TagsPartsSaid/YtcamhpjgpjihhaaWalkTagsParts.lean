/- TagsParts: a filter matches just if each of its three lists does, by itself: the walk. -/
import Derived.Test.YtcamhpjgpjihhaaWalkTagsMatch
namespace Go.Proofs.Ytcamhpjgpjihhaa
open Go.RowKit
attribute [local go_sem ↓] load24
attribute [local go_sem] rowOf_new rowOf_drew isPtr0_ptr blkOf_ptr

theorem match_parts (al an no l : List ByteArray) : matchL al an no l = (matchL al [] [] l && matchL [] an [] l && matchL [] [] no l) := by
  unfold matchL
  simp
  cases al.all fun t => hasL l t <;> cases no.any fun t => hasL l t <;> simp

set_option maxHeartbeats 2000000 in
theorem tagsParts_walk (v0 v1 : Value) (w : World) (h0 : Came Try.prog w 24 v0) (h1 : Came Try.prog w 22 v1) :
    Calls Try.prog 7 #[v0, v1] w fun e w' => e = .returned (.bool true) ∧ Below w.heap.size w w' := by
  obtain ⟨cs, al, an, no, rfl, hF⟩ := came_fil h0
  obtain ⟨l, hl⟩ := came_strs h1
  clear h0 h1
  obtain ⟨A, cap, rfl, _⟩ := hl.one
  obtain ⟨a, y, n, rfl, ha, hy, hn⟩ := id hF
  obtain ⟨aA, ac, rfl, -, -, -⟩ := ha.one
  obtain ⟨yA, yc, rfl, -, -, -⟩ := hy.one
  obtain ⟨nA, nc, rfl, -, -, -⟩ := hn.one
  have hB := Blk.new w #[.slice aA al.length ac, .slice yA an.length yc, .slice nA no.length nc] 24
  have kk := (Kp.refl (fun _ => False) w).alloc (.cells #[.slice aA al.length ac, .slice yA an.length yc, .slice nA no.length nc] 24)
  go_enter Try.func7, Try.ntmps7
  go_wp2_with fail
  refine (tags_alive _).mono ?_
  rintro e w1 ⟨rfl, k1⟩
  have kk := kk.trans k1
  have hB := hB.kp k1 id
  have c0 := (hB.cell 0).trans rfl
  have hlH := Lib.hid hl
  have hFH := Lib.hid hF
  clear hl hF k1
  go_wp2_with fail
  refine (strs_great _ _ _ (hlH.out.keeps (Keeps.kp kk))).mono ?_
  rintro e w2 ⟨g, rfl, _, k2⟩
  have kk := kk.trans k2
  have hB := hB.kp k2 id
  have c0 := (hB.cell 0).trans rfl
  clear k2
  cases g
  case true =>
    go_wp2_with fail
    go_ret
    exact ⟨rfl, kk.below⟩
  go_wp2_with fail
  refine (strs_great _ _ _ (ha.keeps (Keeps.kp kk))).mono ?_
  rintro e w3 ⟨g, rfl, _, k2⟩
  have kk := kk.trans k2
  have hB := hB.kp k2 id
  have c1 := (hB.cell 1).trans rfl
  clear k2
  cases g
  case true =>
    go_wp2_with fail
    go_ret
    exact ⟨rfl, kk.below⟩
  go_wp2_with fail
  refine (strs_great _ _ _ (hy.keeps (Keeps.kp kk))).mono ?_
  rintro e w4 ⟨g, rfl, _, k2⟩
  have kk := kk.trans k2
  have hB := hB.kp k2 id
  have c2 := (hB.cell 2).trans rfl
  clear k2
  cases g
  case true =>
    go_wp2_with fail
    go_ret
    exact ⟨rfl, kk.below⟩
  go_wp2_with fail
  refine (strs_great _ _ _ (hn.keeps (Keeps.kp kk))).mono ?_
  rintro e w5 ⟨g, rfl, _, k2⟩
  have kk := kk.trans k2
  have hB := hB.kp k2 id
  clear k2
  cases g
  case true =>
    go_wp2_with fail
    go_ret
    exact ⟨rfl, kk.below⟩
  have N := fun W => (RowN.nil 1 (One fun s => .string s) W : Strs W (.slice none 0 0) [])
  have hq := match_parts al an no l
  obtain ⟨q1, e1⟩ : ∃ q, Hid (matchL al [] [] l = q) := ⟨_, rfl⟩
  obtain ⟨q2, e2⟩ : ∃ q, Hid (matchL [] an [] l = q) := ⟨_, rfl⟩
  obtain ⟨q3, e3⟩ : ∃ q, Hid (matchL [] [] no l = q) := ⟨_, rfl⟩
  obtain ⟨q, e0⟩ : ∃ q, Hid (matchL al an no l = q) := ⟨_, rfl⟩
  rw [e0.out, e1.out, e2.out, e3.out] at hq
  have hq := Lib.hid hq
  have c0 := (hB.cell 0).trans rfl
  have K := Keeps.kp kk
  have HP := prog_match [.slice aA al.length ac, .slice none 0 0, .slice none 0 0] al [] [] _ l _ ⟨_, _, _, rfl, ha.keeps K, N _, N _⟩ (hlH.out.keeps K)
  rw [e1.out] at HP
  have HP := Lib.hid HP
  clear K N
  go_wp2_with fail
  refine HP.out.mono ?_
  rintro e w6 ⟨rfl, k2⟩
  have kk := kk.trans k2
  have hB := hB.kp k2 id
  have c1 := (hB.cell 1).trans rfl
  have N := fun W => (RowN.nil 1 (One fun s => .string s) W : Strs W (.slice none 0 0) [])
  have K := Keeps.kp kk
  have HP2 := prog_match [.slice none 0 0, .slice yA an.length yc, .slice none 0 0] [] an [] _ l _ ⟨_, _, _, rfl, N _, hy.keeps K, N _⟩ (hlH.out.keeps K)
  rw [e2.out] at HP2
  have HP2 := Lib.hid HP2
  clear K N HP k2
  go_wp2_with fail
  refine HP2.out.mono ?_
  rintro e w7 ⟨rfl, k2⟩
  have kk := kk.trans k2
  have hB := hB.kp k2 id
  have c2 := (hB.cell 2).trans rfl
  have N := fun W => (RowN.nil 1 (One fun s => .string s) W : Strs W (.slice none 0 0) [])
  have K := Keeps.kp kk
  have HP3 := prog_match [.slice none 0 0, .slice none 0 0, .slice nA no.length nc] [] [] no _ l _ ⟨_, _, _, rfl, N _, N _, hn.keeps K⟩ (hlH.out.keeps K)
  rw [e3.out] at HP3
  have HP3 := Lib.hid HP3
  clear K N HP2 k2
  go_wp2_with fail
  refine HP3.out.mono ?_
  rintro e w8 ⟨rfl, k2⟩
  have kk := kk.trans k2
  have hB := hB.kp k2 id
  have hr := hB.row
  have K := Keeps.kp kk
  have HP4 := prog_match _ al an no _ l w8 (hFH.out.keeps K) (hlH.out.keeps K)
  rw [e0.out] at HP4
  have HP4 := Lib.hid HP4
  clear K HP3 k2 c0 c1 c2 ha hy hn
  go_wp2_with fail
  refine HP4.out.mono ?_
  rintro e w9 ⟨rfl, k2⟩
  have kk := kk.trans k2
  have hq := hq.out
  clear HP4 k2 hr hB e0 e1 e2 e3
  subst hq
  cases q1 <;> cases q2 <;> cases q3
  all_goals
    go_wp2_with fail
    go_ret
    exact ⟨rfl, kk.below⟩
end Go.Proofs.Ytcamhpjgpjihhaa
