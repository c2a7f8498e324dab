/- TagsMatch: what a filter matches is the document's: the walk. -/
import Derived.Test.YtcamhpjgpjihhaaTags7
import Derived.Test.YtcamhpjgpjihhaaCameT
namespace Go.Proofs.Ytcamhpjgpjihhaa
open Go.RowKit
attribute [local go_sem ↓] load24
attribute [local go_sem] rowOf_new rowOf_drew isPtr0_ptr blkOf_ptr

theorem came_fil {w : World} {v : Value} (h : Came Try.prog w 24 v) : ∃ cs al an no, v = .agg (List.toArray cs) ∧ FilR w cs al an no := by
  obtain ⟨hc, _⟩ := h
  obtain ⟨x0A, x0n, x0c, x1A, x1n, x1c, x2A, x2n, x2c, e, h0, h1, h2⟩ := came24 hc
  obtain ⟨l0, e0, h0⟩ := h0.strs Try.underlying9
  obtain ⟨l1, e1, h1⟩ := h1.strs Try.underlying9
  obtain ⟨l2, e2, h2⟩ := h2.strs Try.underlying9
  refine ⟨_, l0, l1, l2, ?_, _, _, _, rfl, h0, h1, h2⟩
  rw [← e]
  cases v <;> simp [Value.cells] at e ⊢

theorem came_strs {w : World} {v : Value} (h : Came Try.prog w 22 v) : ∃ l, Strs w v l := by
  obtain ⟨A, len, cap, rfl, hs⟩ := Came.slIn Try.underlying22 (by kernel_rfl : Try.prog.cellsOf 9 = 1) (by decide) h
  obtain ⟨l, rfl, hs⟩ := hs.strs Try.underlying9
  exact ⟨l, hs⟩

theorem prog_ref {w w5 w6 : World} (cs : List Value) (al an no : List ByteArray) (v : Value) (l : List ByteArray) (q : Bool) (hF : Hid (FilR w cs al an no)) (hl : Hid (Strs w v l)) (hq : Hid (matchL al an no l = q)) (kk : Kp (fun _ => False) w w5) (k6 : Kp (fun _ => False) w5.drew w6) :
    Calls Try.prog 18 #[.agg cs.toArray, v] w6 fun e w' => e = .returned (.bool q) ∧ Kp (fun _ => False) w6 w' := by
  have K := ((Keeps.kp kk).trans (Keeps.drew w5)).trans (Keeps.kp k6)
  rw [← hq.out]
  exact ref_match cs al an no v l w6 (hF.out.keeps K) (hl.out.keeps K)

set_option maxHeartbeats 1000000 in
theorem tagsMatch_walk (v0 v1 : Value) (w : World) (h0 : Came Try.prog w 24 v0) (h1 : Came Try.prog w 22 v1) :
    Calls Try.prog 3 #[v0, v1] w fun e w' => e = .returned (.bool true) ∧ Below w.heap.size w w' := by
  obtain ⟨cs, al, an, no, rfl, hF⟩ := came_fil h0
  obtain ⟨l, hl⟩ := came_strs h1
  clear h0 h1
  obtain ⟨A, cap, rfl, _⟩ := hl.one
  obtain ⟨a, y, n, rfl, ha, hy, hn⟩ := id hF
  have hB := Blk.new w #[a, y, n] 24
  have kk := (Kp.refl (fun _ => False) w).alloc (.cells #[a, y, n] 24)
  go_enter Try.func3, Try.ntmps3
  go_wp2_with fail
  refine (tags_alive _).mono ?_
  rintro e w1 ⟨rfl, k1⟩
  have kk := kk.trans k1
  have hB := hB.kp k1 id
  have c0 := (hB.cell 0).trans rfl
  have hlH := Lib.hid hl
  have hFH := Lib.hid hF
  clear hl hF k1
  go_wp2_with fail
  refine (strs_great _ _ _ (hlH.out.keeps (Keeps.kp kk))).mono ?_
  rintro e w2 ⟨g, rfl, _, k2⟩
  have kk := kk.trans k2
  have hB := hB.kp k2 id
  have c0 := (hB.cell 0).trans rfl
  clear k2
  cases g
  case true =>
    go_wp2_with fail
    go_ret
    exact ⟨rfl, kk.below⟩
  go_wp2_with fail
  refine (strs_great _ _ _ (ha.keeps (Keeps.kp kk))).mono ?_
  rintro e w3 ⟨g, rfl, _, k2⟩
  have kk := kk.trans k2
  have hB := hB.kp k2 id
  have c1 := (hB.cell 1).trans rfl
  clear k2
  cases g
  case true =>
    go_wp2_with fail
    go_ret
    exact ⟨rfl, kk.below⟩
  go_wp2_with fail
  refine (strs_great _ _ _ (hy.keeps (Keeps.kp kk))).mono ?_
  rintro e w4 ⟨g, rfl, _, k2⟩
  have kk := kk.trans k2
  have hB := hB.kp k2 id
  have c2 := (hB.cell 2).trans rfl
  clear k2
  cases g
  case true =>
    go_wp2_with fail
    go_ret
    exact ⟨rfl, kk.below⟩
  go_wp2_with fail
  refine (strs_great _ _ _ (hn.keeps (Keeps.kp kk))).mono ?_
  rintro e w5 ⟨g, rfl, _, k2⟩
  have kk := kk.trans k2
  have hB := hB.kp k2 id
  clear k2
  cases g
  case true =>
    go_wp2_with fail
    go_ret
    exact ⟨rfl, kk.below⟩
  have hr := hB.row
  obtain ⟨q, hq⟩ : ∃ q, Hid (matchL al an no l = q) := ⟨_, rfl⟩
  have HP := prog_match _ al an no _ l w5.drew (hFH.out.keeps ((Keeps.kp kk).trans (Keeps.drew w5))) (hlH.out.keeps ((Keeps.kp kk).trans (Keeps.drew w5)))
  rw [hq.out] at HP
  have HP := Lib.hid HP
  have hqq : (q == q) = true := by simp
  go_wp2_with fail
  go_region_held3 (fun w' => rowOf w' w.heap.size = #[a, y, n]) (first | exact hr | exact d6 | exact d7 | go_keep)
    (first | (go_at_call 17; refine HP.out.mono ?_; rintro e w6 ⟨rfl, k6⟩; have d6 := (hB.drew.kp k6 id).row; have HR := prog_ref _ _ _ _ _ _ _ hFH hlH hq kk k6) | (go_at_call 18; refine HR.mono ?_; rintro e w7 ⟨rfl, k7⟩; have d7 := ((hB.drew.kp k6 id).kp k7 id).row))
  have kk := (kk.drew.trans k6).trans k7
  clear HP HR hr d6 d7 hqq
  go_wp2_with fail
  go_ret
  exact ⟨rfl, kk.below⟩
end Go.Proofs.Ytcamhpjgpjihhaa
