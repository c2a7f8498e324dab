/- RetryGood: what went well makes all that failed ahead of it forgotten: the walk. -/
import Derived.Test.YtnjkoapkgoiljaaRetryRef
import Derived.Test.YtnjkoapkgoiljaaCame
namespace Go.Proofs.Ytnjkoapkgoiljaa
open Go.RowKit

/-- A slice of uint32 that came in: its elements. -/
def U32s (w : World) (A : Option Addr) (len : Nat) : Prop :=
  len ≤ maxLen ∧ ∀ i, i < len → ∃ b off n, A = some ⟨b, off, none⟩ ∧ w.cell? ⟨b, off + i, none⟩ = some (.int .u32 n) ∧ 0 ≤ n ∧ n < 4294967296

theorem u32_bd {n : Int} (h : (Lit.int .u32 n).wf = true) : 0 ≤ n ∧ n < 4294967296 := by
  have := bounds_u32 h
  omega

theorem U32s.of_came {w : World} {v : Value} (h : Came Try.prog w 23 v) : ∃ A len cap, v = .slice A len cap ∧ U32s w A len := by
  obtain ⟨A, len, cap, rfl, h1, h2, h3⟩ := Came.row Try.underlying23 (by kernel_rfl : Try.prog.cellsOf 30 = 1) (by decide) h
  refine ⟨A, len, cap, rfl, by omega, fun i hi => ?_⟩
  obtain ⟨b, off, es, rfl, hl, he, hc⟩ := h3 i hi
  obtain ⟨n, rfl, hw⟩ := CameC.int Try.underlying30 hc
  exact ⟨b, off, n, rfl, by simpa using he 0 (by decide), u32_bd hw⟩

theorem U32s.kp {S : Nat → Prop} {w w' : World} {A : Option Addr} {len : Nat} (h : U32s w A len) (k : Kp S w w') (hS : ∀ i, i < w.heap.size → ¬ S i) : U32s w' A len :=
  ⟨h.1, fun i hi => by
    obtain ⟨b, off, n, e, hc, h0⟩ := h.2 i hi
    exact ⟨b, off, n, e, k.cell hc (hS _ (World.block_lt_of_cell? w _ hc)), h0⟩⟩

theorem U32s.below {w w' : World} {A : Option Addr} {len : Nat} (h : U32s w A len) (k : Below w.heap.size w w') : U32s w' A len := h.kp (S := fun _ => False) (Kp.of_below _ k) (fun _ _ => id)

/-- The loop's relation. -/
def RgRel (w : World) (len bA bB : Nat) (i : Value) (wr : World) : Prop :=
  ∃ (k : Nat) (n at_ : Int), i = .int .i64 k ∧ k ≤ len ∧ k ≤ 50 ∧ TimerAt wr bA n at_ ∧ 0 ≤ n ∧ n ≤ k ∧ TimerAt wr bB 0 0 ∧ Below w.heap.size w wr

theorem may_good (at_ ask : Int) : May 0 at_ ask = true := by simp [May]
theorem may_now (now : Int) : May 1 (now + Behind 0) now = false := by
  have : Behind 0 = 1 := rfl
  rw [this]
  simp [May]
  omega

set_option maxHeartbeats 1000000 in
theorem retryGood_walk (v0 v1 v2 : Value) (w : World) (h0 : Came Try.prog w 23 v0) (h1 : Came Try.prog w 30 v1) (h2 : Came Try.prog w 30 v2) :
    Calls Try.prog 5 #[v0, v1, v2] w fun e w' => e = .returned (.bool true) ∧ Below w.heap.size w w' := by
  obtain ⟨A, len, cap, rfl, hs⟩ := U32s.of_came h0
  obtain ⟨now, rfl, hn⟩ := Came.int Try.underlying30 h1
  obtain ⟨ask, rfl, ha⟩ := Came.int Try.underlying30 h2
  have hn := u32_bd hn
  have ha := u32_bd ha
  have hm : len ≤ 9223372036854775807 := by have := hs.1; unfold maxLen at this; omega
  clear h0 h1 h2
  go_enter Try.func5, Try.ntmps5
  go_wp2_with fail
  refine (retry_alive _).mono ?_
  rintro e w1 ⟨rfl, k1⟩
  go_wp2_with fail
  refine (retry_new _).mono ?_
  rintro e w2 ⟨rfl, hA, k2⟩
  go_wp2_with fail
  refine (retry_new _).mono ?_
  rintro e w3 ⟨rfl, hB, k3⟩
  have hA3 := hA.kp k3 id
  have kk := (k1.trans (k2.trans k3)).below
  have hne : w1.heap.size ≠ w2.heap.size := Nat.ne_of_lt hA.lt
  have g1 := k1.size
  have g2 := k2.size
  have g3 := k3.size
  generalize w1.heap.size = bA at *
  generalize w2.heap.size = bB at *
  clear hA k1 k2 k3
  go_wp2_with fail
  go_loopw [9] (fun i wr => RgRel w len bA bB i wr) (fun i _ => 50 - (intOf i).toNat)
  case atStart => exact ⟨0, 0, 0, rfl, Nat.zero_le _, by omega, hA3, by omega, by omega, hB, kk⟩
  case round =>
    obtain ⟨k, n, at_, rfl, hk1, hk2, hTA, hn0, hn1, hTB, hbw⟩ := hrel
    by_cases hlt : k < len ∧ k < 50
    · obtain ⟨hl1, hl2⟩ := hlt
      obtain ⟨b, off, x, rfl, hc, hx⟩ := hs.2 k hl1
      have hc' := (hbw.cell (World.block_lt_of_cell? w _ hc)).trans hc
      go_wp2_with fail
      refine (retry_fail _ n at_ _ _ hTA hx.1 hx.2 hn0 (by omega)).mono ?_
      rintro e w4 ⟨rfl, hTA', k4⟩
      have hTB' := hTB.kp k4 (fun h => hne h.symm)
      have hb4 := k4.below_of hbw (by have := hbw.size; omega) (by rintro i rfl; omega)
      go_wp2
      go_roundw
      case rel => exact ⟨k + 1, n + 1, _, by go_num, by omega, by omega, hTA', by omega, by omega, hTB', hb4⟩
      case measure => simp [intOf]; omega
    · have hcase : (decide (k < len) = false) ∨ ((decide (k < len) = true) ∧ ¬ (k : Int) < 50) := by
        by_cases h : k < len
        · exact .inr ⟨by simpa using h, by omega⟩
        · exact .inl (by simpa using h)
      clear hlt
      rcases hcase with hl | ⟨hl, hl2⟩
      all_goals
        go_wp2_with fail
        refine (retry_good _ _ _ _ hTA).mono ?_
        rintro e w4 ⟨rfl, hTA4, k4⟩
        have hTB4 := hTB.kp k4 (fun h => hne h.symm)
        have hb4 := k4.below_of hbw (by have := hbw.size; omega) (by rintro i rfl; omega)
        go_wp2_with fail
        refine (retry_may_b _ _ _ _ true _ hTA4 ha.1 ha.2 (may_good _ _)).mono ?_
        rintro e w5 ⟨rfl, rfl⟩
        go_wp2_with fail
        refine (retry_fails _ _ _ _ hTA4 (by decide) (by decide)).mono ?_
        rintro e w5 ⟨rfl, rfl⟩
        go_wp2_with fail
        refine (retry_fail _ _ _ _ _ hTA4 hn.1 hn.2 (by decide) (by decide)).mono ?_
        rintro e w5 ⟨rfl, hTA5, k5⟩
        have hTB5 := hTB4.kp k5 (fun h => hne h.symm)
        have hb5 := k5.below_of hb4 (by have := hb4.size; omega) (by rintro i rfl; omega)
        go_wp2_with fail
        refine (retry_fail _ _ _ _ _ hTB5 hn.1 hn.2 (by decide) (by decide)).mono ?_
        rintro e w6 ⟨rfl, hTB6, k6⟩
        have hTA6 := hTA5.kp k6 (fun h => hne h)
        have hb6 := k6.below_of hb5 (by have := hb5.size; omega) (by rintro i rfl; omega)
        go_wp2_with fail
        obtain ⟨r, HR⟩ : ∃ r, Hid (May (0 + 1) (now + Behind 0) ask = r) := ⟨_, rfl⟩
        have hr : (r == r) = true := by simp
        refine (retry_may_b _ _ _ _ r _ hTA6 ha.1 ha.2 HR.out).mono ?_
        rintro e w7 ⟨rfl, rfl⟩
        go_wp2_with fail
        refine (retry_may_b _ _ _ _ r _ hTB6 ha.1 ha.2 HR.out).mono ?_
        rintro e w7 ⟨rfl, rfl⟩
        go_wp2_with fail
        refine (retry_fails _ _ _ _ hTA6 (by decide) (by decide)).mono ?_
        rintro e w7 ⟨rfl, rfl⟩
        go_wp2_with fail
        refine (retry_fails _ _ _ _ hTB6 (by decide) (by decide)).mono ?_
        rintro e w7 ⟨rfl, rfl⟩
        go_wp2_with fail
        refine (retry_may_b _ _ _ _ false _ hTA6 hn.1 hn.2 (may_now now)).mono ?_
        rintro e w7 ⟨rfl, rfl⟩
        go_wp2_with fail
        go_ret
        exact ⟨rfl, hb6⟩
end Go.Proofs.Ytnjkoapkgoiljaa
