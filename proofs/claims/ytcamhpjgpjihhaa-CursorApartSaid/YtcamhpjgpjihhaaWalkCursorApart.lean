/- CursorApart: nobody but its owner takes from a cursor, or closes it: the walk. -/
import Derived.Test.YtcamhpjgpjihhaaCur11
namespace Go.Proofs.Ytcamhpjgpjihhaa
open Go.RowKit

theorem rise1 (b : Nat) (c : Cur) : RiseC [(1, b, c)] := by simp [RiseC]

set_option maxRecDepth 8000 in
set_option maxHeartbeats 4000000 in
theorem cursorApart_walk (v0 v1 v2 v3 : Value) (w : World) (h0 : Came Try.prog w 44 v0) (h1 : Came Try.prog w 44 v1) (h2 : Came Try.prog w 41 v2) (h3 : Came Try.prog w 53 v3) :
    Calls Try.prog 12 #[v0, v1, v2, v3] w fun e w' => e = .returned (.bool true) ∧ Below w.heap.size w w' := by
  obtain ⟨owner, rfl, -⟩ := Came.int Try.underlying44 h0
  obtain ⟨other, rfl, -⟩ := Came.int Try.underlying44 h1
  obtain ⟨page, rfl, -⟩ := Came.int Try.underlying41 h2
  obtain ⟨A, len, cap, rfl, hs⟩ := Came.slIn Try.underlying53 (by kernel_rfl : Try.prog.cellsOf 47 = 2) (by decide) h3
  obtain ⟨l, rfl, hh⟩ := came_hits hs
  have hhH := Lib.hid hh
  clear h0 h1 h2 h3 hs hh
  go_enter Try.func12, Try.ntmps12
  go_wp2_with fail
  refine (cursor_alive _).mono ?_
  rintro e w1 ⟨rfl, k1⟩
  by_cases hoo : owner = other
  · have e0 : (owner == other) = true := by simpa using hoo
    clear hoo
    go_wp2_with fail
    go_ret
    exact ⟨rfl, k1.below⟩
  have e0 : (owner == other) = false := by simpa using hoo
  have hB1 : w.heap.size ≤ w1.heap.size := k1.size
  have hooH := Lib.hid hoo
  clear hoo
  go_wp2_with fail
  refine (tab_new 5 w1 w.heap.size hB1).mono ?_
  rintro e w2 ⟨bt, bm, rfl, hT, k2⟩
  have kt : Kt w.heap.size TC True w w2 := Kt.of_kp (k1.trans k2)
  have hv := own_lit32 w2 [1] (by decide)
  have hO := Lib.hid (open_first owner 3 0 _ [1] _ (hT.kp ((Kp.refl _ w2).alloc (.cells #[.int .i32 1] 21))) (by have := kt.size; simp; omega) hv (by decide))
  have kt := kt.alloc (.cells #[.int .i32 1] 21)
  clear hT hv k1 k2 e0
  go_wp2_with fail
  refine hO.out.mono ?_
  rintro e w3 ⟨b, rfl, hC, k3⟩
  have kt := kt.trans k3
  have hD := Lib.hid (told1 _ 1 _ l rfl hC (by simp [rightC, newCur]) (by decide) (by decide) (fun w' q => hhH.out.keeps (Keeps.below ((kt.trans q).below (Nat.le_refl _)))))
  have hs := told_same (newCur owner 3 [1] [] [] [] 0) 1 l
  have hp1 := told_page (newCur owner 3 [1] [] [] [] 0) 1 l
  have hlh : (toldC (newCur owner 3 [1] [] [] [] 0) 1 l).lh = decide (0 < l.length) := by
    cases l with
    | nil => rfl
    | cons x l => simp [toldC, List.getLast?_cons]
  have hfacts := Lib.hid (And.intro hs (And.intro hp1 hlh))
  generalize toldC (newCur owner 3 [1] [] [] [] 0) 1 l = c at *
  clear hO k3 hC hs hp1 hlh
  go_wp2_with fail
  refine hD.out.mono ?_
  rintro e w4 ⟨rfl, hC, k4⟩
  have kt := kt.trans k4
  obtain ⟨⟨ho, hu, ha⟩, hp, hlh⟩ := hfacts.out
  have ho : c.owner = owner := ho
  have ha : c.ask = ⟨3, [1], [], [], [], false, 0, 0⟩ := ha
  have hu : c.used = 0 := hu
  have hnot : NotMine [(1, b, c)] other 1 := by
    intro b' c' hl e
    rw [look1] at hl
    simp only [Option.some.injEq, Prod.mk.injEq] at hl
    obtain ⟨-, rfl⟩ := hl
    rw [ho] at e
    exact hooH.out e
  have hN := Lib.hid (take_none other 1 page 0 hC hnot)
  have hnotH := Lib.hid hnot
  clear hD k4 hnot ho ha hu hp hlh
  go_wp2_with fail
  refine hN.out.mono ?_
  rintro e w5 ⟨rfl, k5⟩
  unfold zAsk
  have kA := k5.alloc (.cells #[.int .i64 0, .slice none 0 0, .slice none 0 0, .slice none 0 0, .slice none 0 0, .bool false, .int .i64 0, .int .u32 0] 49)
  have hC := hC.kp kA
  have kt := kt.kp kA
  have hCl := Lib.hid (close_no other 1 hC hnotH.out)
  clear hN k5 kA hnotH
  go_wp2_with fail
  refine hCl.out.mono ?_
  rintro e w6 ⟨rfl, rfl⟩
  have hBw := kt.size
  have hLv := prog_leave other hC hBw (rise1 b c) (by simp)
  have hno : leaveS other c = false := by
    have := hfacts.out.1.1
    unfold leaveS
    rw [show c.owner = owner from this]
    simpa using hooH.out
  simp only [pinsC, hno, List.filter_cons, List.filter_nil, Bool.false_eq_true, if_false, List.map_nil, Bool.not_false, if_true] at hLv
  have hLv := Lib.hid hLv
  clear hCl hC hno
  go_wp2_with fail
  refine hLv.out.mono ?_
  rintro e w7 ⟨v7, rfl, hP, hC, k7⟩
  have kt := kt.trans k7
  obtain ⟨pA, pc, rfl⟩ := OwnR.form hP
  have hLn := Lib.hid (tab_len w7 hC)
  have hC7 := Lib.hid hC
  clear hLv hP k7 hC
  go_wp2_with fail
  refine hLn.out.mono ?_
  rintro e w8 ⟨rfl, rfl⟩
  obtain ⟨⟨ho, hu, ha⟩, hp, hlh⟩ := hfacts.out
  have hBw := kt.size
  have hbh : behind c 2 = (decide (0 < l.length), c.ld, c.li) := by unfold behind; rw [if_neg (by rw [hp]; decide), hlh]
  have hask : askOf c 2 = ⟨3, [1], [], [], [], decide (0 < l.length), c.ld, c.li⟩ := by unfold askOf; rw [hbh, ha]; rfl
  have hTk := Lib.hid (take1 _ c owner 2 0 hask (used_eq hu) hC7.out hBw ho (by simp [rightC, hp]) (by rw [ha]; exact ⟨(by show (1 : Nat) ≤ 30000000000000; decide), Nat.zero_le _, Nat.zero_le _, Nat.zero_le _⟩) (by decide) (by decide))
  clear hLn hC7 ho hu ha hp hlh hbh hask
  go_wp2_with fail
  refine hTk.out.mono ?_
  rintro e w9 ⟨vA, vc, aA, ac, yA, yc, nA, nc, rfl, -, hC, k9⟩
  have kt := kt.trans k9
  have hC := hC.kp ((Kp.refl _ w9).alloc (.cells #[.int .i64 3, .slice vA 1 vc, .slice aA 0 ac, .slice yA 0 yc, .slice nA 0 nc, .bool (decide (0 < l.length)), .int .i64 c.ld, .int .u32 c.li] 49))
  have kt := kt.alloc (.cells #[.int .i64 3, .slice vA 1 vc, .slice aA 0 ac, .slice yA 0 yc, .slice nA 0 nc, .bool (decide (0 < l.length)), .int .i64 c.ld, .int .u32 c.li] 49)
  have hBw := kt.size
  have hLv := prog_leave owner hC hBw (rise1 b c) (by simp)
  have hyes : leaveS owner c = true := by
    have := hfacts.out.1.1
    unfold leaveS
    rw [show c.owner = owner from this]
    simp
  have hpin : c.ask.pin = 3 := by rw [hfacts.out.1.2.2]; rfl
  simp only [pinsC, hyes, List.filter_cons, List.filter_nil, Bool.false_eq_true, if_false, List.map_nil, Bool.not_true, if_true, List.map_cons, hpin] at hLv
  have hLv := Lib.hid hLv
  have hee : (decide ((0 : Int) < (l.length : Int)) == decide ((0 : Int) < (l.length : Int))) = true := by simp
  clear hTk hC hyes hpin k9
  go_wp2_with fail
  refine hLv.out.mono ?_
  rintro e w10 ⟨v10, rfl, hP, -, k10⟩
  have kt := kt.trans k10
  have hL := own_litP w10 [3] (by decide)
  have hS := Lib.hid (ints11_same _ _ [3] _ (OwnR.row (OwnR.kp hP ((Kp.refl _ w10).alloc (.cells #[.int .i64 3] 3)))) hL.ints)
  have kt := kt.alloc (.cells #[.int .i64 3] 3)
  obtain ⟨pA2, pc2, rfl⟩ := OwnR.form hP
  clear hLv hP hL k10
  go_wp2_with fail
  refine hS.out.mono ?_
  rintro e w11 ⟨rfl, k11⟩
  have kt := kt.kp k11
  clear hS
  go_wp2_with fail
  go_ret
  exact ⟨rfl, kt.below (Nat.le_refl _)⟩
end Go.Proofs.Ytcamhpjgpjihhaa
