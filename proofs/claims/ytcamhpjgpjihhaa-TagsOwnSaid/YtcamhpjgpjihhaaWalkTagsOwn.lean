/- TagsOwn: what is handed in stays as it was: the walk. -/
import Derived.Test.YtcamhpjgpjihhaaWalkTagsSame
import Derived.Test.YtcamhpjgpjihhaaApdS
namespace Go.Proofs.Ytcamhpjgpjihhaa
open Go.RowKit
attribute [local go_sem ↓] load24
attribute [local go_sem] rowOf_new rowOf_drew isPtr0_ptr blkOf_ptr

set_option maxHeartbeats 2000000 in
theorem tagsOwn_walk (v0 v1 : Value) (w : World) (h0 : Came Try.prog w 24 v0) (h1 : Came Try.prog w 22 v1) :
    Calls Try.prog 9 #[v0, v1] w fun e w' => e = .returned (.bool true) ∧ Below w.heap.size w w' := by
  obtain ⟨cs, al, an, no, rfl, hF⟩ := came_fil h0
  obtain ⟨l, hl⟩ := came_strs h1
  clear h0 h1
  obtain ⟨A, cap, rfl, _⟩ := hl.one
  obtain ⟨a, y, n, rfl, ha, hy, hn⟩ := id hF
  obtain ⟨aA, ac, rfl, -, -, -⟩ := ha.one
  obtain ⟨yA, yc, rfl, -, -, -⟩ := hy.one
  obtain ⟨nA, nc, rfl, -, -, -⟩ := hn.one
  have hB := Blk.new w #[.slice aA al.length ac, .slice yA an.length yc, .slice nA no.length nc] 24
  have kk := (Kp.refl (fun _ => False) w).alloc (.cells #[.slice aA al.length ac, .slice yA an.length yc, .slice nA no.length nc] 24)
  go_enter Try.func9, Try.ntmps9
  go_wp2_with fail
  refine (tags_alive _).mono ?_
  rintro e w1 ⟨rfl, k1⟩
  have kk := kk.trans k1
  have hB := hB.kp k1 id
  have c0 := (hB.cell 0).trans rfl
  have hlH := Lib.hid hl
  have hFH := Lib.hid hF
  clear hl hF k1
  go_wp2_with fail
  refine (strs_great _ _ _ (hlH.out.keeps (Keeps.kp kk))).mono ?_
  rintro e w2 ⟨g, rfl, hg1, k2⟩
  have kk := kk.trans k2
  have hB := hB.kp k2 id
  have c0 := (hB.cell 0).trans rfl
  clear k2
  cases g
  case true =>
    go_wp2_with fail
    go_ret
    exact ⟨rfl, kk.below⟩
  have hg1 := (hg1 rfl).1
  go_wp2_with fail
  refine (strs_great _ _ _ (ha.keeps (Keeps.kp kk))).mono ?_
  rintro e w3 ⟨g, rfl, hg2, k2⟩
  have kk := kk.trans k2
  have hB := hB.kp k2 id
  have c1 := (hB.cell 1).trans rfl
  clear k2
  cases g
  case true =>
    go_wp2_with fail
    go_ret
    exact ⟨rfl, kk.below⟩
  have hg2 := (hg2 rfl).1
  go_wp2_with fail
  refine (strs_great _ _ _ (hy.keeps (Keeps.kp kk))).mono ?_
  rintro e w4 ⟨g, rfl, _, k2⟩
  have kk := kk.trans k2
  have hB := hB.kp k2 id
  have c2 := (hB.cell 2).trans rfl
  clear k2
  cases g
  case true =>
    go_wp2_with fail
    go_ret
    exact ⟨rfl, kk.below⟩
  go_wp2_with fail
  refine (strs_great _ _ _ (hn.keeps (Keeps.kp kk))).mono ?_
  rintro e w5 ⟨g, rfl, _, k2⟩
  have kk := kk.trans k2
  have hB := hB.kp k2 id
  clear k2
  cases g
  case true =>
    go_wp2_with fail
    go_ret
    exact ⟨rfl, kk.below⟩
  have hlt5 := hB.lt
  have n1 : ∀ g, (Value.slice (some ⟨w5.heap.size, 0, none⟩) 0 0).ownBlock = some g → w.heap.size ≤ g ∧ g < w5.heap.size + 1 := by
    intro g hg
    have := kk.size
    simp [Value.ownBlock] at hg
    omega
  have n1 := Lib.hid n1
  have hs5 : w.heap.size ≤ (w5.alloc (.cells #[] 9)).heap.size := by have := kk.size; simp; omega
  have o1 : (w5.alloc (.cells #[] 9)).ownsRow w.heap.size 9 1 (.slice (some ⟨w5.heap.size, 0, none⟩) 0 0) 0 [] := World.ownsRow_lit w5 #[] 0 kk.size (by simp) rfl
  have o1 := Lib.hid o1
  have kk := kk.alloc (.cells #[] 9)
  have hB := hB.alloc (.cells #[] 9)
  go_wp2_with (at_builtin; refine wpList_append_strs (w := w5.alloc (.cells #[] 9)) w.heap.size rfl (.tmp 26) (.tmp 27) 22 9 (.string ByteArray.empty) 16 rfl Try.underlying22 infoStr rfl _ 0 [] _ l rfl rfl o1.out (hlH.out.keeps (Keeps.kp kk)) (by omega) (by omega) hs5 ?_)
  intro A1 cap1 w6 hown1 hgr
  have kk := kp_own2 n1.out kk hgr
  have hx1 : OwnS w6 w.heap.size (.slice A1 l.length cap1) l := by unfold OwnS; simpa using hown1
  have hx1b := Lib.hid (own_base' hx1)
  have hx1 := Lib.hid hx1
  have hne : w.heap.size ≠ w5.heap.size := by omega
  have hB := hB.kp (Kp.of_grown (S := fun g => g = w5.heap.size) hgr (fun k h => by simp [Value.ownBlock] at h; exact h.symm)) hne
  have c0 := (hB.cell 0).trans rfl
  clear hown1 hgr o1 n1 hs5 hne
  have n1 : ∀ g, (Value.slice (some ⟨w6.heap.size, 0, none⟩) 0 0).ownBlock = some g → w.heap.size ≤ g ∧ g < w6.heap.size + 1 := by
    intro g hg
    have := kk.size
    simp [Value.ownBlock] at hg
    omega
  have n1 := Lib.hid n1
  have hs5 : w.heap.size ≤ (w6.alloc (.cells #[] 9)).heap.size := by have := kk.size; simp; omega
  have o1 : (w6.alloc (.cells #[] 9)).ownsRow w.heap.size 9 1 (.slice (some ⟨w6.heap.size, 0, none⟩) 0 0) 0 [] := World.ownsRow_lit w6 #[] 0 kk.size (by simp) rfl
  have o1 := Lib.hid o1
  have hne : w.heap.size ≠ w6.heap.size := by have := hB.lt; omega
  have kk := kk.alloc (.cells #[] 9)
  have hB := hB.alloc (.cells #[] 9)
  have c0 := (hB.cell 0).trans rfl
  go_wp2_with (at_builtin; refine wpList_append_strs (w := w6.alloc (.cells #[] 9)) w.heap.size rfl (.tmp 29) (.tmp 31) 22 9 (.string ByteArray.empty) 16 rfl Try.underlying22 infoStr rfl _ 0 [] _ al rfl rfl o1.out (ha.keeps (Keeps.kp kk)) (by omega) (by omega) hs5 ?_)
  intro A2 cap2 w7 hown2 hgr
  have kk := kp_own2 n1.out kk hgr
  have hx2 : Strs w7 (.slice A2 al.length cap2) al := strs_of_own (B := w.heap.size) (by unfold OwnS; simpa using hown2)
  have hB := hB.kp (Kp.of_grown (S := fun g => g = w6.heap.size) hgr (fun k h => by simp [Value.ownBlock] at h; exact h.symm)) hne
  have hx1 : Strs w7 (.slice A1 l.length cap1) l := strs_of_own (own_kp (hx1.out.alloc _) (Kp.of_grown (S := fun g => g = w6.heap.size) hgr (fun k h => by simp [Value.ownBlock] at h; exact h.symm)) (fun g hg => by have := (hx1b.out g hg).2; omega))
  clear hown2 hgr o1 n1 hs5 hne
  have c0 := (hB.cell 0).trans rfl
  have S1 := Lib.hid (prog_sort _ _ _ (hlH.out.keeps (Keeps.kp kk)) (by omega))
  go_wp2_with fail
  refine S1.out.mono ?_
  rintro e w8 ⟨v8, rfl, -, k8⟩
  have kk := kk.trans (Kp.of_below _ k8)
  have hB := hB.kp (Kp.of_below (fun _ => False) k8) id
  have hx1 := hx1.keeps (Keeps.below k8)
  have hx2 := hx2.keeps (Keeps.below k8)
  generalize (if okL (sortL l) = true then v8 else Value.slice none 0 0) = vv
  generalize checkN (sortL l) = cn
  have S2 := Lib.hid (prog_check _ _ _ (hlH.out.keeps (Keeps.kp kk)))
  clear S1 k8
  go_wp2_with fail
  refine S2.out.mono ?_
  rintro e w9 ⟨rfl, rfl⟩
  have hr := hB.row
  have S3 := Lib.hid (prog_right _ al an no _ (hFH.out.keeps (Keeps.kp kk)))
  clear S2
  go_wp2_with fail
  refine S3.out.mono ?_
  rintro e w10 ⟨rfl, k8⟩
  have kk := kk.trans k8
  have hB := hB.kp k8 id
  have hx1 := hx1.keeps (Keeps.kp k8)
  have hx2 := hx2.keeps (Keeps.kp k8)
  have hr := hB.row
  have S4 := Lib.hid (prog_match _ al an no _ l _ (hFH.out.keeps (Keeps.kp kk)) (hlH.out.keeps (Keeps.kp kk)))
  clear S3 k8
  go_wp2_with fail
  refine S4.out.mono ?_
  rintro e w11 ⟨rfl, k8⟩
  have kk := kk.trans k8
  have hB := hB.kp k8 id
  have hx1 := hx1.keeps (Keeps.kp k8)
  have hx2 := hx2.keeps (Keeps.kp k8)
  have c0 := (hB.cell 0).trans rfl
  have S5 := Lib.hid (strs_same _ _ _ _ (hlH.out.keeps (Keeps.kp kk)) hx1)
  clear S4 k8
  go_wp2_with fail
  refine S5.out.mono ?_
  rintro e w12 ⟨rfl, k8⟩
  have kk := kk.trans k8
  have hB := hB.kp k8 id
  have hx2 := hx2.keeps (Keeps.kp k8)
  have c0 := (hB.cell 0).trans rfl
  have S6 := Lib.hid (strs_same _ _ _ _ (ha.keeps (Keeps.kp kk)) hx2)
  clear S5 k8
  go_wp2_with fail
  refine S6.out.mono ?_
  rintro e w13 ⟨rfl, k8⟩
  have kk := kk.trans k8
  go_wp2_with fail
  go_ret
  exact ⟨rfl, kk.below⟩
end Go.Proofs.Ytcamhpjgpjihhaa
