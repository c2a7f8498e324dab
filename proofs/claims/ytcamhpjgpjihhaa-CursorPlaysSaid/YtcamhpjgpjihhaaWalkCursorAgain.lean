/- CursorAgain: a page that is asked for again, as often as it is, asks for the same, whatever its hits were: the walk. -/
import Derived.Test.YtcamhpjgpjihhaaCur9
namespace Go.Proofs.Ytcamhpjgpjihhaa
set_option linter.unusedVariables false
set_option linter.unusedSimpArgs false
open Go.RowKit

theorem told_right (c : Cur) (p : Int) (l : List (Int × Int)) (h0 : 0 < p) : rightC (toldC c p l) p = true := by
  have : (toldC c p l).page = p := by unfold toldC; split <;> rfl
  simp [rightC, this, h0]
theorem told_page (c : Cur) (p : Int) (l : List (Int × Int)) : (toldC c p l).page = p := by unfold toldC; split <;> rfl
theorem told_behind (c : Cur) (p : Int) (l : List (Int × Int)) : behind (toldC c p l) p = behind c p := by
  have h1 : behind (toldC c p l) p = ((toldC c p l).ah, (toldC c p l).ad, (toldC c p l).ai) := by unfold behind; rw [if_pos (told_page c p l).symm]
  rw [h1]
  have h2 : (toldC c p l).ah = (toldA c p).ah ∧ (toldC c p l).ad = (toldA c p).ad ∧ (toldC c p l).ai = (toldA c p).ai := by unfold toldC; split <;> exact ⟨rfl, rfl, rfl⟩
  rw [h2.1, h2.2.1, h2.2.2]
  unfold toldA behind
  split <;> rfl
theorem told_same (c : Cur) (p : Int) (l : List (Int × Int)) : (toldC c p l).owner = c.owner ∧ (toldC c p l).used = c.used ∧ (toldC c p l).ask = c.ask := by
  unfold toldC toldB toldA
  split <;> split <;> exact ⟨rfl, rfl, rfl⟩
theorem used_eq {c : Cur} {n : Int} (h : c.used = n) : { c with used := n } = c := by
  subst h
  rfl

def askG : AskC := ⟨1, [2], [], [], [], false, 0, 0⟩
def askX (X : Bool × Int × Int) : AskC := ⟨1, [2], [], [], [], X.1, X.2.1, X.2.2⟩
theorem askOf_X {c : Cur} {p : Int} {X : Bool × Int × Int} (h : c.ask = askG) (hb : behind c p = X) : askOf c p = askX X := by
  unfold askOf
  rw [h, hb]
  rfl

/-- The cursor of the statement. -/
def AgC (c : Cur) : Prop := c.owner = 1 ∧ c.used = 0 ∧ c.ask = askG
def AgRel (w : World) (bt bm b n : Nat) (i : Value) (wr : World) : Prop := ∃ (k : Nat) (c : Cur), k ≤ n ∧ k ≤ 20 ∧ i = .int .i64 k ∧ OneC wr w.heap.size bt bm b 5 c ∧ AgC c ∧ c.page = k ∧ Kt w.heap.size TC True w wr
def AgIn (w : World) (bt bm b ba k : Nat) (cs : List Value) (X : Bool × Int × Int) (j : Value) (wr : World) : Prop := ∃ (i : Nat) (c : Cur), i ≤ 4 ∧ j = .int .i64 i ∧ OneC wr w.heap.size bt bm b 5 c ∧ AgC c ∧ rightC c ((k : Int) + 1) = true ∧ behind c ((k : Int) + 1) = X ∧ (0 < i → c.page = (k : Int) + 1) ∧ Blk wr ba cs.toArray 49 ∧ AskO wr w.heap.size cs (askX X) ∧ Kt w.heap.size TC True w wr

theorem askX_small (X : Bool × Int × Int) : (askX X).small := ⟨by show 1 ≤ _; decide, by simp [askX], by simp [askX], by simp [askX]⟩
theorem askG_small {c : Cur} (h : c.ask = askG) : c.ask.small := by rw [h]; exact askX_small (false, 0, 0)

set_option maxRecDepth 8000 in
set_option maxHeartbeats 4000000 in
theorem cursorAgain_walk (v0 v1 : Value) (w : World) (h0 : Came Try.prog w 38 v0) (h1 : Came Try.prog w 5 v1) :
    Calls Try.prog 10 #[v0, v1] w fun e w' => e = .returned (.bool true) ∧ Below w.heap.size w w' := by
  obtain ⟨l, hl⟩ := came_hits3 h0
  obtain ⟨tm, rfl, htm⟩ := Came.int Try.underlying5 h1
  have ht0 : 0 ≤ tm ∧ tm < 256 := by
    simp [Lit.wf] at htm
    have e0 : IntKind.u8.min = 0 := rfl
    have e1 : IntKind.u8.max = 255 := rfl
    omega
  clear h0 h1 htm
  obtain ⟨A, cap, rfl, hlc, hlm, hrow⟩ := hl
  have hlen : l.length ≤ 9223372036854775807 := by simp only [maxLen] at hlm; omega
  have hrow := Lib.hid hrow
  clear hlc hlm
  go_enter Try.func10, Try.ntmps10
  go_wp2_with fail
  refine (cursor_alive _).mono ?_
  rintro e w1 ⟨rfl, k1⟩
  have hB1 : w.heap.size ≤ w1.heap.size := k1.size
  go_wp2_with fail
  refine (tab_new 5 w1 w.heap.size hB1).mono ?_
  rintro e w2 ⟨bt, bm, rfl, hT, k2⟩
  have kt : Kt w.heap.size TC True w w2 := Kt.of_kp (k1.trans k2)
  have hv := own_lit32 w2 [2] (by decide)
  have hO := Lib.hid (open_first 1 1 0 _ [2] _ (hT.kp ((Kp.refl _ w2).alloc (.cells #[.int .i32 2] 21))) (by have := kt.size; simp; omega) hv (by decide))
  have kt := kt.alloc (.cells #[.int .i32 2] 21)
  clear hT hv k1 k2
  go_wp2_with fail
  refine hO.out.mono ?_
  rintro e w3 ⟨b, rfl, hC, k3⟩
  have kt := kt.trans k3
  clear hO k3
  go_wp2_with fail
  go_loopw [8] (fun i wr => AgRel w bt bm b l.length i wr) (fun i _ => l.length - (intOf i).toNat)
  case atStart => exact ⟨0, _, by omega, by omega, rfl, hC, ⟨rfl, rfl, rfl⟩, rfl, kt⟩
  case round =>
    clear kt hC
    obtain ⟨k, c, hk, hk20, rfl, hC, ⟨ho, hu, ha⟩, hp, kt⟩ := hrel
    by_cases hlt : k < l.length ∧ k < 20
    · obtain ⟨hl1, hl2⟩ := hlt
      obtain ⟨hb, off, es, rfl, -, hc, ⟨vh, rfl, hh⟩⟩ := hrow.out k hl1
      have hcell : w.cell? ⟨hb, off + k, none⟩ = some vh := by simpa using hc 0 (by omega)
      have harg := Lib.hid (fun (w' : World) (q : Kt w.heap.size TC True w w') => hh.keeps (Keeps.below (q.below (Nat.le_refl _))))
      obtain ⟨hA, hcap, rfl, -, -, -⟩ := hh
      have hl20 : decide ((k : Int) < 20) = true := decide_eq_true (by omega)
      have hw : IntKind.u32.wrap ((k : Int) + 1) = (k : Int) + 1 := IntWalk.u32_in _ ⟨by omega, by omega⟩
      obtain ⟨X, hX⟩ : ∃ X, Hid (behind c ((k : Int) + 1) = X) := ⟨_, rfl⟩
      have hr : rightC c ((k : Int) + 1) = true := by simp [rightC, hp]
      have hBr : w.heap.size ≤ wr.heap.size := kt.size
      have hTk := Lib.hid (take1 ⟨1, [2], [], [], [], X.1, X.2.1, X.2.2⟩ c 1 ((k : Int) + 1) 0 (askOf_X ha hX.out) (used_eq hu) hC hBr ho hr (askG_small ha) (by omega) (by omega))
      have hAg := Lib.hid (And.intro ho (And.intro hu ha))
      have hrH := Lib.hid hr
      have hcell := Lib.hid hcell
      clear hc hC ho hu ha hp hr
      go_wp2_with fail
      refine hTk.out.mono ?_
      rintro e w4 ⟨vA, vc, aA, ac, yA, yc, nA, nc, rfl, hAsk, hC, k4⟩
      have kt := kt.trans k4
      have hE := Blk.new w4 #[.int .i64 1, .slice vA 1 vc, .slice aA 0 ac, .slice yA 0 yc, .slice nA 0 nc, .bool X.1, .int .i64 X.2.1, .int .u32 X.2.2] 49
      have hAsk := hAsk.kp ((Kp.refl _ w4).alloc (.cells #[.int .i64 1, .slice vA 1 vc, .slice aA 0 ac, .slice yA 0 yc, .slice nA 0 nc, .bool X.1, .int .i64 X.2.1, .int .u32 X.2.2] 49))
      have hC := hC.kp ((Kp.refl _ w4).alloc (.cells #[.int .i64 1, .slice vA 1 vc, .slice aA 0 ac, .slice yA 0 yc, .slice nA 0 nc, .bool X.1, .int .i64 X.2.1, .int .u32 X.2.2] 49))
      have kt := kt.alloc (.cells #[.int .i64 1, .slice vA 1 vc, .slice aA 0 ac, .slice yA 0 yc, .slice nA 0 nc, .bool X.1, .int .i64 X.2.1, .int .u32 X.2.2] 49)
      clear hTk k4
      go_wp2_with fail
      generalize hba : w4.heap.size = ba at *
      clear hba
      generalize hW4 : (w4.alloc (.cells #[.int .i64 1, .slice vA 1 vc, .slice aA 0 ac, .slice yA 0 yc, .slice nA 0 nc, .bool X.1, .int .i64 X.2.1, .int .u32 X.2.2] 49)) = W4 at *
      clear hW4
      go_loopw [12] (fun j w5 => AgIn w bt bm b ba k [.int .i64 1, .slice vA 1 vc, .slice aA 0 ac, .slice yA 0 yc, .slice nA 0 nc, .bool X.1, .int .i64 X.2.1, .int .u32 X.2.2] X j w5) (fun j _ => 4 - (intOf j).toNat)
      case atStart => exact ⟨0, c, by omega, rfl, hC, hAg.out, hrH.out, hX.out, fun h => absurd h (by omega), hE, hAsk, kt⟩
      case round =>
        clear hC hE hAsk kt
        obtain ⟨j, c, hj, rfl, hC, ⟨ho, hu, ha⟩, hr, hX, hp, hE, hAsk, kt⟩ := hrel
        by_cases hjt : (j : Int) < 1 + tm % 4
        · have hcW : wr.cell? ⟨hb, off + k, none⟩ = some (.slice hA (List.length l[k]) hcap) := (Keeps.below (kt.below (Nat.le_refl _))) _ _ hcell.out
          have hD := Lib.hid (told1 (toldC c ((k : Int) + 1) l[k]) ((k : Int) + 1) _ l[k] rfl hC hr (by omega) (by omega) (fun w' q => harg.out w' (kt.trans q)))
          have hs := told_same c ((k : Int) + 1) l[k]
          have hb1 := told_behind c ((k : Int) + 1) l[k]
          have hr1 := told_right c ((k : Int) + 1) l[k] (by omega)
          have hp1 := told_page c ((k : Int) + 1) l[k]
          rw [ho, hu, ha] at hs
          rw [hX] at hb1
          have hfacts := Lib.hid (And.intro hs (And.intro hb1 (And.intro hr1 hp1)))
          generalize toldC c ((k : Int) + 1) l[k] = c1 at *
          clear hs hb1 hr1 hp1 hC ho hu ha hr hX hp
          go_wp2_with fail
          refine hD.out.mono ?_
          rintro e w6 ⟨rfl, hC, k6⟩
          have kt := kt.trans k6
          have hE := hE.kt k6 (by unfold TC; decide)
          have hAsk := hAsk.kt k6 (by unfold TC; decide) (by unfold TC; decide)
          have hBr : w.heap.size ≤ w6.heap.size := kt.size
          obtain ⟨⟨ho, hu, ha⟩, hb1, hr1, hp1⟩ := hfacts.out
          have hTk := Lib.hid (take1 ⟨1, [2], [], [], [], X.1, X.2.1, X.2.2⟩ c1 1 ((k : Int) + 1) 0 (askOf_X ha hb1) (used_eq hu) hC hBr ho hr1 (askG_small ha) (by omega) (by omega))
          clear hD k6 hcW ho hu ha hb1 hr1 hp1 hC
          go_wp2_with fail
          refine hTk.out.mono ?_
          rintro e w7 ⟨pA, pc, qA, qc, rA, rc, sA', sc, rfl, hAsk2, hC, k7⟩
          have kt := kt.trans k7
          have hla : ba < w7.heap.size := (hE.kt k7 (by unfold TC; decide)).lt
          have hE := (hE.kt k7 (by unfold TC; decide)).alloc (.cells #[.int .i64 1, .slice pA 1 pc, .slice qA 0 qc, .slice rA 0 rc, .slice sA' 0 sc, .bool X.1, .int .i64 X.2.1, .int .u32 X.2.2] 49)
          have hAsk := (hAsk.kt k7 (by unfold TC; decide) (by unfold TC; decide)).kp ((Kp.refl _ w7).alloc (.cells #[.int .i64 1, .slice pA 1 pc, .slice qA 0 qc, .slice rA 0 rc, .slice sA' 0 sc, .bool X.1, .int .i64 X.2.1, .int .u32 X.2.2] 49))
          have hAsk2 := hAsk2.kp ((Kp.refl _ w7).alloc (.cells #[.int .i64 1, .slice pA 1 pc, .slice qA 0 qc, .slice rA 0 rc, .slice sA' 0 sc, .bool X.1, .int .i64 X.2.1, .int .u32 X.2.2] 49))
          have hC := hC.kp ((Kp.refl _ w7).alloc (.cells #[.int .i64 1, .slice pA 1 pc, .slice qA 0 qc, .slice rA 0 rc, .slice sA' 0 sc, .bool X.1, .int .i64 X.2.1, .int .u32 X.2.2] 49))
          have kt := kt.alloc (.cells #[.int .i64 1, .slice pA 1 pc, .slice qA 0 qc, .slice rA 0 rc, .slice sA' 0 sc, .bool X.1, .int .i64 X.2.1, .int .u32 X.2.2] 49)
          have hS := Lib.hid (ask_same _ _ _ _ hAsk.reads hAsk2.reads)
          clear hTk k7
          have x0 : (w7.alloc (.cells #[.int .i64 1, .slice pA 1 pc, .slice qA 0 qc, .slice rA 0 rc, .slice sA' 0 sc, .bool X.1, .int .i64 X.2.1, .int .u32 X.2.2] 49)).cell? ⟨ba, 0, none⟩ = some (.int .i64 1) := (hE.cell 0).trans rfl
          have x1 : (w7.alloc (.cells #[.int .i64 1, .slice pA 1 pc, .slice qA 0 qc, .slice rA 0 rc, .slice sA' 0 sc, .bool X.1, .int .i64 X.2.1, .int .u32 X.2.2] 49)).cell? ⟨ba, 1, none⟩ = some (.slice vA 1 vc) := (hE.cell 1).trans rfl
          have x2 : (w7.alloc (.cells #[.int .i64 1, .slice pA 1 pc, .slice qA 0 qc, .slice rA 0 rc, .slice sA' 0 sc, .bool X.1, .int .i64 X.2.1, .int .u32 X.2.2] 49)).cell? ⟨ba, 2, none⟩ = some (.slice aA 0 ac) := (hE.cell 2).trans rfl
          have x3 : (w7.alloc (.cells #[.int .i64 1, .slice pA 1 pc, .slice qA 0 qc, .slice rA 0 rc, .slice sA' 0 sc, .bool X.1, .int .i64 X.2.1, .int .u32 X.2.2] 49)).cell? ⟨ba, 3, none⟩ = some (.slice yA 0 yc) := (hE.cell 3).trans rfl
          have x4 : (w7.alloc (.cells #[.int .i64 1, .slice pA 1 pc, .slice qA 0 qc, .slice rA 0 rc, .slice sA' 0 sc, .bool X.1, .int .i64 X.2.1, .int .u32 X.2.2] 49)).cell? ⟨ba, 4, none⟩ = some (.slice nA 0 nc) := (hE.cell 4).trans rfl
          have x5 : (w7.alloc (.cells #[.int .i64 1, .slice pA 1 pc, .slice qA 0 qc, .slice rA 0 rc, .slice sA' 0 sc, .bool X.1, .int .i64 X.2.1, .int .u32 X.2.2] 49)).cell? ⟨ba, 5, none⟩ = some (.bool X.1) := (hE.cell 5).trans rfl
          have x6 : (w7.alloc (.cells #[.int .i64 1, .slice pA 1 pc, .slice qA 0 qc, .slice rA 0 rc, .slice sA' 0 sc, .bool X.1, .int .i64 X.2.1, .int .u32 X.2.2] 49)).cell? ⟨ba, 6, none⟩ = some (.int .i64 X.2.1) := (hE.cell 6).trans rfl
          have x7 : (w7.alloc (.cells #[.int .i64 1, .slice pA 1 pc, .slice qA 0 qc, .slice rA 0 rc, .slice sA' 0 sc, .bool X.1, .int .i64 X.2.1, .int .u32 X.2.2] 49)).cell? ⟨ba, 7, none⟩ = some (.int .u32 X.2.2) := (hE.cell 7).trans rfl
          go_wp2_with fail
          refine hS.out.mono ?_
          rintro e w8 ⟨rfl, k8⟩
          have kt := kt.kp k8
          have hE := hE.kp k8 id
          have hAsk := hAsk.kp k8
          have hC := hC.kp k8
          obtain ⟨⟨ho, hu, ha⟩, hb1, hr1, hp1⟩ := hfacts.out
          clear hS k8 hAsk2 x0 x1 x2 x3 x4 x5 x6 x7 hla
          go_wp2_with fail
          go_roundw
          case rel => exact ⟨j + 1, c1, by omega, by go_num, hC, ⟨ho, hu, ha⟩, hr1, hb1, fun _ => hp1, hE, hAsk, kt⟩
          case measure => simp [intOf]; omega
        · have hp1 := hp (by omega)
          go_wp2_with fail
          first
          | exact ⟨⟨k + 1, c, by omega, by omega, by go_num, hC, ⟨ho, hu, ha⟩, by rw [hp1]; simp, kt⟩, by simp [intOf]; omega⟩
          | (go_roundw
             case rel => exact ⟨k + 1, c, by omega, by omega, by go_num, hC, ⟨ho, hu, ha⟩, by rw [hp1]; simp, kt⟩
             case measure => simp [intOf]; omega)
    · have hcase : (decide (k < l.length) = false) ∨ ((decide (k < l.length) = true) ∧ decide ((k : Int) < 20) = false) := by
        by_cases h : k < l.length
        · exact .inr ⟨by simpa using h, decide_eq_false (by omega)⟩
        · exact .inl (by simpa using h)
      clear hlt hrow
      rcases hcase with hl | ⟨hl, hl2⟩
      all_goals
        go_wp2_with fail
        go_ret
        exact ⟨rfl, kt.below (Nat.le_refl _)⟩
end Go.Proofs.Ytcamhpjgpjihhaa
