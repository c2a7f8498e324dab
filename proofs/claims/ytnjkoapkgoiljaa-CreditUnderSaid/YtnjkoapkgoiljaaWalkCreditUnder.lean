/- CreditUnder: never more under way than the size: the walk. -/
import Derived.Test.YtnjkoapkgoiljaaWalkCreditFrees
import Derived.Deep.DeepCutAuto
import Derived.Deep.CutBlock
namespace Go.Proofs.Ytnjkoapkgoiljaa
open Go.RowKit

/-- A slice of bools that came in. -/
def BoolsIn (w : World) (A : Option Addr) (len : Nat) : Prop :=
  len ≤ maxLen ∧ ∀ i, i < len → ∃ b off x, A = some ⟨b, off, none⟩ ∧ w.cell? ⟨b, off + i, none⟩ = some (.bool x)

theorem BoolsIn.of_came {w : World} {v : Value} (h : Came Try.prog w 48 v) : ∃ A len cap, v = .slice A len cap ∧ BoolsIn w A len := by
  obtain ⟨A, len, cap, rfl, h1, h2, h3⟩ := Came.row Try.underlying48 (by kernel_rfl : Try.prog.cellsOf 4 = 1) (by decide) h
  refine ⟨A, len, cap, rfl, by omega, fun i hi => ?_⟩
  obtain ⟨b, off, es, rfl, hl, he, hc⟩ := h3 i hi
  obtain ⟨x, rfl⟩ := CameC.bool Try.underlying4 hc
  exact ⟨b, off, x, rfl, by simpa using he 0 (by decide)⟩

/-- The loop's relation: s the size; so many asked for, so many had. -/
def CuRel (w : World) (len bW : Nat) (s : Int) (next had i : Value) (wr : World) : Prop :=
  ∃ (k : Nat) (n h : Int), i = .int .i64 k ∧ next = .int .u32 n ∧ had = .int .u32 h ∧ k ≤ len ∧ k ≤ 300 ∧ 1 ≤ n ∧ n ≤ k + 1 ∧ 0 ≤ h ∧ h + 1 ≤ n ∧ n - 1 - h ≤ s ∧ WinAt wr bW s (h + s) ∧ Below w.heap.size w wr

theorem cu_had {s h : Int} (hs : 1 ≤ s ∧ s ≤ 8) (h0 : 0 ≤ h) (h1 : h ≤ 1000) : Mx (h + s) (HadTo s (h + 1)) = h + 1 + s := by unfold Mx HadTo; omega

set_option maxRecDepth 100000 in
set_option maxHeartbeats 2000000 in
theorem creditUnder_walk (v0 v1 : Value) (w : World) (h0 : Came Try.prog w 3 v0) (h1 : Came Try.prog w 48 v1) :
    Calls Try.prog 7 #[v0, v1] w fun e w' => e = .returned (.bool true) ∧ Below w.heap.size w w' := by
  obtain ⟨size, rfl, _⟩ := Came.int Try.underlying3 h0
  obtain ⟨A, len, cap, rfl, hs⟩ := BoolsIn.of_came h1
  have hm : len ≤ 9223372036854775807 := by have := hs.1; unfold maxLen at this; omega
  clear h0 h1
  obtain ⟨s, HC⟩ : ∃ s, Hid (Clip size = s) := ⟨_, rfl⟩
  have hs1 : 1 ≤ s ∧ s ≤ 8 := by rw [← HC.out]; exact clip_bd size
  go_enter Try.func7, Try.ntmps7
  go_wp2_with fail
  refine (win_alive _).mono ?_
  rintro e w1 ⟨rfl, k1⟩
  go_wp2_with fail
  refine (win_new size _).mono ?_
  rintro e w2 ⟨rfl, hW, k2⟩
  rw [HC.out] at hW
  have kk := (k1.trans k2).below
  have g1 := k1.size
  clear k1 k2
  generalize w1.heap.size = bW at *
  go_upto_region 4 with fail
  go_cut [6] (fun m wx => m = .int .u32 s ∧ w2 = wx)
  case first =>
    have hC := HC.out
    unfold Clip at hC
    by_cases h1 : size ≤ 1
    · rw [if_pos h1] at hC
      subst hC
      go_wp2
      go_meet
      exact ⟨rfl, rfl⟩
    · rw [if_neg h1] at hC
      by_cases h8 : size ≤ 8
      · rw [if_pos h8] at hC
        subst hC
        go_wp2
        go_meet
        exact ⟨rfl, rfl⟩
      · rw [if_neg h8] at hC
        subst hC
        go_wp2
        go_meet
        exact ⟨rfl, rfl⟩
  case rest =>
    obtain ⟨rfl, rfl⟩ := hcut
    clear HC
    go_wp2_with fail
    go_loopw [7, 8, 9] (fun n h i wr => CuRel w len bW s n h i wr) (fun _ _ i _ => (300 - intOf i).toNat)
    case atStart => exact ⟨0, 1, 0, rfl, rfl, rfl, by omega, by omega, by omega, by omega, by omega, by omega, by omega, by rw [show (0 : Int) + s = s by omega]; exact hW, kk⟩
    case round =>
      clear hW kk
      obtain ⟨k, n, h, rfl, rfl, rfl, hk1, hk2, hn0, hn1, hh0, hh1, hnh, hWk, hbw⟩ := hrel
      by_cases hlt : k < len ∧ k < 300
      · obtain ⟨hl1, hl2⟩ := hlt
        obtain ⟨b, off, x, rfl, hc⟩ := hs.2 k hl1
        have hc := (hbw.cell (World.block_lt_of_cell? w _ hc)).trans hc
        -- the end of each way: the window's answer is the size's rest
        cases x with
        | true =>
          by_cases hmay : n ≤ h + s
          · have hr : Hid ((decide (0 < n) && decide (n ≤ h + s)) = true) := by unfold Hid; simp; omega
            have hv : Hid ((if n + 1 = 0 ∨ h + s < n + 1 then (0 : Int) else h + s - (n + 1) + 1) = s - (n - h)) := by unfold Hid; split <;> omega
            go_wp2_with fail
            refine (win_may_b _ _ _ _ true _ hWk (by omega) hr.out).mono ?_
            rintro e w4 ⟨rfl, rfl⟩
            go_wp2_with fail
            refine (win_free_v _ _ _ _ _ _ hWk (by omega) (by omega) (by omega) hv.out).mono ?_
            rintro e w4 ⟨rfl, rfl⟩
            have hbb : (s - (n - h) != s - (n - h)) = false := by simp
            go_wp2_with fail
            go_roundw
            case rel => exact ⟨k + 1, n + 1, h, by go_num, by go_num, rfl, by omega, by omega, by omega, by omega, by omega, by omega, by omega, hWk, hbw⟩
            case measure => simp [intOf]; omega
          · have hr : Hid ((decide (0 < n) && decide (n ≤ h + s)) = false) := by unfold Hid; simp; omega
            have hv : Hid ((if n = 0 ∨ h + s < n then (0 : Int) else h + s - n + 1) = s - (n - 1 - h)) := by unfold Hid; split <;> omega
            have hge : ¬ (n - 1 - h < s) := by omega
            go_wp2_with fail
            refine (win_may_b _ _ _ _ false _ hWk (by omega) hr.out).mono ?_
            rintro e w4 ⟨rfl, rfl⟩
            go_wp2_with fail
            refine (win_free_v _ _ _ _ _ _ hWk (by omega) (by omega) (by omega) hv.out).mono ?_
            rintro e w4 ⟨rfl, rfl⟩
            have hbb : (s - (n - 1 - h) != s - (n - 1 - h)) = false := by simp
            go_wp2_with fail
            go_roundw
            case rel => exact ⟨k + 1, n, h, by go_num, rfl, rfl, by omega, by omega, by omega, by omega, by omega, by omega, by omega, hWk, hbw⟩
            case measure => simp [intOf]; omega
        | false =>
          by_cases hhad : h < n - 1
          · have hv : Hid ((if n = 0 ∨ h + 1 + s < n then (0 : Int) else h + 1 + s - n + 1) = s - (n - 1 - (h + 1))) := by unfold Hid; split <;> omega
            go_wp2_with fail
            refine (win_had _ _ _ _ _ hWk (by omega) (by omega) (by omega) (by omega)).mono ?_
            rw [cu_had hs1 hh0 (by omega)]
            generalize decide (h + s < HadTo s (h + 1)) = rr
            rintro e w4 ⟨rfl, hW4, k4⟩
            have hb4 := k4.below_of hbw (by have := hbw.size; omega) (by rintro i rfl; omega)
            have hle : ¬ s < n - 1 - (h + 1) := by omega
            go_wp2_with fail
            refine (win_free_v _ _ _ _ _ _ hW4 (by omega) (by omega) (by omega) hv.out).mono ?_
            rintro e w5 ⟨rfl, rfl⟩
            have hbb : (s - (n - 1 - (h + 1)) != s - (n - 1 - (h + 1))) = false := by simp
            go_wp2_with fail
            go_roundw
            case rel => exact ⟨k + 1, n, h + 1, by go_num, rfl, by go_num, by omega, by omega, by omega, by omega, by omega, by omega, by omega, hW4, hb4⟩
            case measure => simp [intOf]; omega
          · have hv : Hid ((if n = 0 ∨ h + s < n then (0 : Int) else h + s - n + 1) = s - (n - 1 - h)) := by unfold Hid; split <;> omega
            have hle : ¬ s < n - 1 - h := by omega
            go_wp2_with fail
            refine (win_free_v _ _ _ _ _ _ hWk (by omega) (by omega) (by omega) hv.out).mono ?_
            rintro e w5 ⟨rfl, rfl⟩
            have hbb : (s - (n - 1 - h) != s - (n - 1 - h)) = false := by simp
            go_wp2_with fail
            go_roundw
            case rel => exact ⟨k + 1, n, h, by go_num, rfl, rfl, by omega, by omega, by omega, by omega, by omega, by omega, by omega, hWk, hbw⟩
            case measure => simp [intOf]; omega
      · have hcase : (decide (k < len) = false) ∨ ((decide (k < len) = true) ∧ ¬ (k : Int) < 300) := by
          by_cases h : k < len
          · exact .inr ⟨by simpa using h, by omega⟩
          · exact .inl (by simpa using h)
        clear hlt
        rcases hcase with hl | ⟨hl, hl2⟩
        all_goals
          go_wp2_with fail
          go_ret
          exact ⟨rfl, hbw⟩
end Go.Proofs.Ytnjkoapkgoiljaa
