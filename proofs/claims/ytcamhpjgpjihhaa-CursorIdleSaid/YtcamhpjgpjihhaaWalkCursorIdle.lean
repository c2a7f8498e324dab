/- CursorIdle: a cursor lasts as long as it is used no more than idle ticks apart, and no longer: the walk. -/
import Derived.Test.YtcamhpjgpjihhaaCur11
namespace Go.Proofs.Ytcamhpjgpjihhaa
open Go.RowKit

def IdAsk : AskC := ⟨3, [1], [], [], [], false, 0, 0⟩
def idC (now : Int) : Cur := ⟨1, IdAsk, 0, false, 0, 0, false, 0, 0, now⟩
theorem rise_id (b : Nat) (c : Cur) : RiseC [(1, b, c)] := by simp [RiseC]
def IdRel (w : World) (bt bm b n : Nat) (idle : Int) (now i : Value) (wr : World) : Prop := ∃ (k : Nat) (t : Int), k ≤ n ∧ k ≤ 50 ∧ i = .int .i64 k ∧ now = .int .u32 t ∧ 0 ≤ t ∧ t < 4294967296 ∧ OneC wr w.heap.size bt bm b idle (idC t) ∧ Kt w.heap.size TC True w wr

theorem id_tick {idle t g : Int} (ht : 0 ≤ g) : tickS idle (t + g) (idC t) = decide (idle < g) := by
  have h1 : t + g - t = g := by omega
  have h2 : t ≤ t + g := by omega
  simp [tickS, idC, h1, h2]

set_option maxRecDepth 8000 in
set_option maxHeartbeats 4000000 in
theorem cursorIdle_walk (v0 v1 : Value) (w : World) (h0 : Came Try.prog w 41 v0) (h1 : Came Try.prog w 56 v1) :
    Calls Try.prog 11 #[v0, v1] w fun e w' => e = .returned (.bool true) ∧ Below w.heap.size w w' := by
  obtain ⟨idle, rfl, -⟩ := Came.int Try.underlying41 h0
  obtain ⟨A, len, cap, rfl, hs⟩ := Came.slIn Try.underlying56 (by kernel_rfl : Try.prog.cellsOf 41 = 1) (by decide) h1
  obtain ⟨l, rfl, hI, hwf⟩ := hs.ints Try.underlying41
  obtain ⟨A', cap', e, hlc, hlm, hrow⟩ := hI.one
  simp only [Value.slice.injEq] at e
  obtain ⟨rfl, -, rfl⟩ := e
  have hb : ∀ x ∈ l, 0 ≤ x ∧ x < 4294967296 := fun x hx => by
    have := hwf x hx
    simp [Lit.wf] at this
    have e0 : IntKind.u32.min = 0 := rfl
    have e1 : IntKind.u32.max = 4294967295 := rfl
    omega
  have hlen : l.length ≤ 9223372036854775807 := by simp only [maxLen] at hlm; omega
  have hrow := Lib.hid hrow
  have hb := Lib.hid hb
  clear h0 h1 hs hI hwf hlc hlm
  go_enter Try.func11, Try.ntmps11
  go_wp2_with fail
  refine (cursor_alive _).mono ?_
  rintro e w1 ⟨rfl, k1⟩
  have hB1 : w.heap.size ≤ w1.heap.size := k1.size
  go_wp2_with fail
  refine (tab_new idle w1 w.heap.size hB1).mono ?_
  rintro e w2 ⟨bt, bm, rfl, hT, k2⟩
  have kt : Kt w.heap.size TC True w w2 := Kt.of_kp (k1.trans k2)
  have hv := own_lit32 w2 [1] (by decide)
  have hO := Lib.hid (open_first 1 3 0 _ [1] _ (hT.kp ((Kp.refl _ w2).alloc (.cells #[.int .i32 1] 21))) (by have := kt.size; simp; omega) hv (by decide))
  have kt := kt.alloc (.cells #[.int .i32 1] 21)
  clear hT hv k1 k2
  go_wp2_with fail
  refine hO.out.mono ?_
  rintro e w3 ⟨b, rfl, hC, k3⟩
  have kt := kt.trans k3
  have hC : OneC w3 w.heap.size bt bm b idle (idC 0) := hC
  clear hO k3
  go_wp2_with fail
  go_loopw [6, 9] (fun now i wr => IdRel w bt bm b l.length idle now i wr) (fun _ i _ => l.length - (intOf i).toNat)
  case atStart => exact ⟨0, 0, by omega, by omega, rfl, rfl, by omega, by omega, hC, kt⟩
  case round =>
    clear kt hC
    obtain ⟨k, t, hk, hk50, rfl, rfl, ht0, ht1, hC, kt⟩ := hrel
    by_cases hlt : k < l.length ∧ k < 50
    · obtain ⟨hl1, hl2⟩ := hlt
      obtain ⟨g0, off, rfl, hc⟩ := hrow.out k hl1
      have hgb := hb.out l[k] (List.getElem_mem hl1)
      have hcell : wr.cell? ⟨g0, off + k, none⟩ = some (.int .u32 l[k]) := (Keeps.below (kt.below (Nat.le_refl _))) _ _ hc
      generalize l[k] = g at *
      have hl20 : decide ((k : Int) < 50) = true := decide_eq_true (by omega)
      have wt : IntKind.u32.wrap (4294967295 - t) = 4294967295 - t := IntWalk.u32_in _ ⟨by omega, by omega⟩
      by_cases hbig : 4294967295 - t < g
      · have hd : decide (4294967295 - t < g) = true := decide_eq_true hbig
        clear hbig hc
        go_wp2_with fail
        go_ret
        exact ⟨rfl, kt.below (Nat.le_refl _)⟩
      · have hd : decide (4294967295 - t < g) = false := decide_eq_false hbig
        have htg : t + g < 4294967296 := by omega
        have wa : IntKind.u32.wrap (t + g) = t + g := IntWalk.u32_in _ ⟨by omega, by omega⟩
        have hBw := kt.size
        have hTk := prog_tick (t + g) hC hBw (rise_id b _) (by simp) ⟨by omega, by omega⟩ (by intro p hp; simp at hp; subst hp; exact ht0)
        simp only [pinsC, List.filter_cons, List.filter_nil, id_tick hgb.1] at hTk
        have hcH := Lib.hid hc
        by_cases hig : idle < g
        · have hd2 : decide (idle < g) = true := decide_eq_true hig
          simp only [hd2, if_true, List.map_cons, List.map_nil, Bool.not_true, Bool.false_eq_true, if_false] at hTk
          have hTk := Lib.hid hTk
          clear hbig hc hC hig
          go_wp2_with fail
          refine hTk.out.mono ?_
          rintro e w4 ⟨v4, rfl, hP, hT, k4⟩
          have kt := kt.trans k4
          obtain ⟨pA, pc, rfl⟩ := OwnR.form hP
          have hN := Lib.hid (take_none 1 1 1 (t + g) hT (fun b c h => by simp [lookC] at h))
          clear hTk k4 hcell
          go_wp2_with fail
          refine hN.out.mono ?_
          rintro e w5 ⟨rfl, k5⟩
          unfold zAsk
          have kA := k5.alloc (.cells #[.int .i64 0, .slice none 0 0, .slice none 0 0, .slice none 0 0, .slice none 0 0, .bool false, .int .i64 0, .int .u32 0] 49)
          have kt := kt.kp kA
          have hP := OwnR.kp hP kA
          have hT := Lib.hid ((hT.kp kA).kp ((Kp.refl _ _).alloc (.cells #[.int .i64 3] 3)))
          have hcell : (w5.alloc (.cells #[.int .i64 0, .slice none 0 0, .slice none 0 0, .slice none 0 0, .slice none 0 0, .bool false, .int .i64 0, .int .u32 0] 49)).cell? ⟨g0, off + k, none⟩ = some (.int .u32 g) := (Keeps.below (kt.below (Nat.le_refl _))) _ _ hcH.out
          have hL := own_litP (w5.alloc (.cells #[.int .i64 0, .slice none 0 0, .slice none 0 0, .slice none 0 0, .slice none 0 0, .bool false, .int .i64 0, .int .u32 0] 49)) [3] (by decide)
          have hS := ints11_same _ _ [3] _ (OwnR.row (OwnR.kp hP ((Kp.refl _ _).alloc (.cells #[.int .i64 3] 3)))) (OwnR.row hL)
          rw [show (w5.alloc (.cells #[.int .i64 0, .slice none 0 0, .slice none 0 0, .slice none 0 0, .slice none 0 0, .bool false, .int .i64 0, .int .u32 0] 49)).heap.size = w5.heap.size + 1 by simp] at hS
          have hS := Lib.hid hS
          have kt := kt.alloc (.cells #[.int .i64 3] 3)
          clear hN k5 kA hP hL
          go_wp2_with fail
          refine hS.out.mono ?_
          rintro e w6 ⟨rfl, k6⟩
          have kt := kt.kp k6
          have hLn := Lib.hid (tab_len w6 (hT.out.kp k6))
          clear hS k6 hT
          go_wp2_with fail
          refine hLn.out.mono ?_
          rintro e w7 ⟨rfl, rfl⟩
          clear hLn
          go_wp2_with fail
          go_ret
          exact ⟨rfl, kt.below (Nat.le_refl _)⟩
        · have hd2 : decide (idle < g) = false := decide_eq_false hig
          simp only [hd2, if_true, List.map_nil, Bool.not_false, Bool.false_eq_true, if_false] at hTk
          have hTk := Lib.hid hTk
          clear hbig hc hC hig
          go_wp2_with fail
          refine hTk.out.mono ?_
          rintro e w4 ⟨v4, rfl, hP, hT, k4⟩
          have kt := kt.trans k4
          obtain ⟨pA, pc, rfl⟩ := OwnR.form hP
          have hBw := kt.size
          have hN := Lib.hid (take1 ⟨3, [1], [], [], [], false, 0, 0⟩ (idC (t + g)) 1 1 (t + g) rfl rfl hT hBw rfl rfl ⟨(by show (1 : Nat) ≤ 30000000000000; decide), Nat.zero_le _, Nat.zero_le _, Nat.zero_le _⟩ (by decide) (by decide))
          clear hTk k4 hcell hP hT
          go_wp2_with fail
          refine hN.out.mono ?_
          rintro e w5 ⟨vA, vc, aA, ac, yA, yc, nA, nc, rfl, -, hC, k5⟩
          have kt := kt.trans k5
          have hC := hC.kp ((Kp.refl _ w5).alloc (.cells #[.int .i64 3, .slice vA 1 vc, .slice aA 0 ac, .slice yA 0 yc, .slice nA 0 nc, .bool false, .int .i64 0, .int .u32 0] 49))
          have kt := kt.alloc (.cells #[.int .i64 3, .slice vA 1 vc, .slice aA 0 ac, .slice yA 0 yc, .slice nA 0 nc, .bool false, .int .i64 0, .int .u32 0] 49)
          have hcell : (w5.alloc (.cells #[.int .i64 3, .slice vA 1 vc, .slice aA 0 ac, .slice yA 0 yc, .slice nA 0 nc, .bool false, .int .i64 0, .int .u32 0] 49)).cell? ⟨g0, off + k, none⟩ = some (.int .u32 g) := (Keeps.below (kt.below (Nat.le_refl _))) _ _ hcH.out
          clear hN k5
          go_wp2_with fail
          go_roundw
          case rel => exact ⟨k + 1, t + g, by omega, by omega, by go_num, rfl, by omega, by omega, hC, kt⟩
          case measure => simp [intOf]; omega
    · have hcase : (decide (k < l.length) = false) ∨ ((decide (k < l.length) = true) ∧ decide ((k : Int) < 50) = false) := by
        by_cases h : k < l.length
        · exact .inr ⟨by simpa using h, decide_eq_false (by omega)⟩
        · exact .inl (by simpa using h)
      have hLn := Lib.hid (tab_len wr hC)
      clear hlt hrow hC
      rcases hcase with hl | ⟨hl, hl2⟩
      all_goals
        go_wp2_with fail
        refine hLn.out.mono ?_
        rintro e w7 ⟨rfl, rfl⟩
        clear hLn
        go_wp2_with fail
        go_ret
        exact ⟨rfl, kt.below (Nat.le_refl _)⟩
end Go.Proofs.Ytcamhpjgpjihhaa
