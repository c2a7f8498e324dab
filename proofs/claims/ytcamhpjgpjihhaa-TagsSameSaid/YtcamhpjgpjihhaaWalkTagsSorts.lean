/- TagsSorts: tags in order are the document's, or may not be; they may be then: the walk. -/
import Derived.Test.YtcamhpjgpjihhaaWalkTagsMatch
import Derived.Test.YtcamhpjgpjihhaaTagsR
namespace Go.Proofs.Ytcamhpjgpjihhaa
open Go.RowKit

set_option maxHeartbeats 1000000 in
theorem tagsSorts_walk (v0 : Value) (w : World) (h0 : Came Try.prog w 22 v0) :
    Calls Try.prog 4 #[v0] w fun e w' => e = .returned (.bool true) ∧ Below w.heap.size w w' := by
  obtain ⟨l, hl⟩ := came_strs h0
  clear h0
  have kk := Kp.refl (fun _ => False) w
  obtain ⟨A, cap, rfl, -, -, -⟩ := hl.one
  go_enter Try.func4, Try.ntmps4
  go_wp2_with fail
  refine (tags_alive _).mono ?_
  rintro e w1 ⟨rfl, k1⟩
  have kk := kk.trans k1
  have hlH := Lib.hid hl
  clear hl k1
  go_wp2_with fail
  refine (strs_great _ _ _ (hlH.out.keeps (Keeps.kp kk))).mono ?_
  rintro e w2 ⟨g, rfl, hg, k2⟩
  have kk := kk.trans k2
  clear k2
  cases g
  case true =>
    go_wp2_with fail
    go_ret
    exact ⟨rfl, kk.below⟩
  have hlen := Lib.hid (hg rfl).1
  clear hg
  go_wp2_with fail
  refine (prog_sort _ _ _ (hlH.out.keeps (Keeps.kp kk)) (Nat.le_trans hlen.out (by decide))).mono ?_
  rintro e w3 ⟨v3, rfl, hv3, k3⟩
  have kk := kk.trans (Kp.of_below _ k3)
  obtain ⟨z, hz⟩ : ∃ z, okL (sortL l) = z := ⟨_, rfl⟩
  have hc : checkN (sortL l) = if z = true then 0 else 30 := by unfold checkN; rw [hz]
  rw [hz, hc]
  have hR := ref_sort _ _ _ (hlH.out.keeps (Keeps.kp kk))
  have hz' := Lib.hid hz
  have hc' := Lib.hid hc
  have hv3 := Lib.hid hv3
  have hR := Lib.hid hR
  clear hz hc k3
  cases z
  case false =>
    go_wp2_with fail
    refine hR.out.mono ?_
    rintro e w4 ⟨v4, rfl, -, k4⟩
    rw [hz'.out]
    have kk := kk.trans k4
    clear k4 hR
    go_wp2_with fail
    go_ret
    exact ⟨rfl, kk.below⟩
  case true =>
    obtain ⟨B3, cap3, rfl, -, -, -⟩ := hv3.out.one
    go_wp2_with fail
    refine hR.out.mono ?_
    rintro e w4 ⟨v4, rfl, hv4, k4⟩
    have hv4 := hv4 hz'.out
    rw [hz'.out]
    have kk := kk.trans k4
    have hv3' := Lib.hid (hv3.out.keeps (Keeps.kp k4))
    obtain ⟨B4, cap4, rfl, -, -, -⟩ := hv4.one
    have hS := Lib.hid (strs_same _ _ _ _ hv3'.out hv4)
    clear k4 hR hv4 hv3
    go_wp2_with fail
    refine hS.out.mono ?_
    rintro e w5 ⟨rfl, k5⟩
    have kk := kk.trans k5
    have hC := Lib.hid (prog_check _ _ _ (hv3'.out.keeps (Keeps.kp k5)))
    clear k5 hS
    go_wp2_with fail
    refine hC.out.mono ?_
    rintro e w6 ⟨rfl, rfl⟩
    rw [hc'.out]
    clear hC
    go_wp2_with fail
    go_ret
    exact ⟨rfl, kk.below⟩
end Go.Proofs.Ytcamhpjgpjihhaa
