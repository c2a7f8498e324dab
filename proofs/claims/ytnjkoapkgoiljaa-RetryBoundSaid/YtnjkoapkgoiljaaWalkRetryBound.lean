/- RetryBound: whoever tries as soon as it may, and fails again and again, waits 1, 2, 4, 8, and then always 16 ticks: the walk. -/
import Derived.Test.YtnjkoapkgoiljaaRetryRef
import Derived.Test.YtnjkoapkgoiljaaCame
namespace Go.Proofs.Ytnjkoapkgoiljaa
open Go.RowKit

theorem u32b {n : Int} (h : (Lit.int .u32 n).wf = true) : 0 ≤ n ∧ n < 4294967296 := by
  have := bounds_u32 h
  omega
theorem u8b {n : Int} (h : (Lit.int .u8 n).wf = true) : 0 ≤ n ∧ n < 256 := by
  have := bounds_u8 h
  omega

theorem wait_behind (n : Int) (h : 0 ≤ n) : WaitR (n + 1) = Behind n := by
  unfold WaitR Behind
  omega

/-- The outer loop's relation. -/
def RbRel (w : World) (times : Int) (bT : Nat) (now i : Value) (wr : World) : Prop :=
  ∃ (k : Nat) (x at_ : Int), i = .int .i64 k ∧ now = .int .u64 x ∧ (k : Int) ≤ times ∧ 0 ≤ x ∧ x ≤ 4294967296 ∧ TimerAt wr bT k at_ ∧ Below w.heap.size w wr

/-- The inner one's. -/
def RbIn (k x : Int) (n : Value) : Prop := ∃ m : Int, n = .int .u64 m ∧ 0 ≤ m ∧ m ≤ Behind k

theorem may_yet (k x m : Int) (h : 0 ≤ k) (hm : m < Behind k) : May (k + 1) (x + Behind k) (x + m) = false := by
  simp [May]
  omega
theorem may_at (k x : Int) : May (k + 1) (x + Behind k) (x + Behind k) = true := by simp [May]

set_option maxHeartbeats 1000000 in
theorem retryBound_walk (v0 v1 : Value) (w : World) (h0 : Came Try.prog w 30 v0) (h1 : Came Try.prog w 5 v1) :
    Calls Try.prog 4 #[v0, v1] w fun e w' => e = .returned (.bool true) ∧ Below w.heap.size w w' := by
  obtain ⟨from_, rfl, hf⟩ := Came.int Try.underlying30 h0
  obtain ⟨times, rfl, ht⟩ := Came.int Try.underlying5 h1
  have hf := u32b hf
  have ht := u8b ht
  clear h0 h1
  go_enter Try.func4, Try.ntmps4
  go_wp2_with fail
  refine (retry_alive _).mono ?_
  rintro e w1 ⟨rfl, k1⟩
  go_wp2_with fail
  refine (retry_new _).mono ?_
  rintro e w2 ⟨rfl, hT, k2⟩
  have kk := (k1.trans k2).below
  have g1 := k1.size
  generalize w1.heap.size = bT at *
  clear k1 k2
  go_wp2_with fail
  go_loopw [6, 7] (fun x i wr => RbRel w times bT x i wr) (fun _ i _ => (times - intOf i).toNat)
  case atStart => exact ⟨0, _, 0, rfl, rfl, by omega, hf.1, by omega, hT, kk⟩
  case round =>
    obtain ⟨k, x, at_, rfl, rfl, hk, hx0, hx1, hTk, hbw⟩ := hrel
    by_cases hlt : (k : Int) < times
    · by_cases hbig : 4000000000 < x
      · go_wp2_with fail
        go_ret
        exact ⟨rfl, hbw⟩
      · have hbd := behind_bd k
        go_wp2_with fail
        refine (retry_fail _ _ _ _ _ hTk hx0 (by omega) (by omega) (by omega)).mono ?_
        rintro e w4 ⟨rfl, hT4, k4⟩
        have hb4 := k4.below_of hbw (by have := hbw.size; omega) (by rintro i rfl; omega)
        clear hTk hbw k4
        go_wp2_with fail
        go_loop [8] (fun n => RbIn k x n) (fun n => (16 - intOf n).toNat)
        case atStart => exact ⟨0, rfl, by omega, by omega⟩
        case round =>
          obtain ⟨m, rfl, hm0, hm1⟩ := hrel
          by_cases hlm : m < Behind k
          · go_wp2_with fail
            refine (retry_may_b _ _ _ _ false _ hT4 (by omega) (by omega) (may_yet k x m (by omega) hlm)).mono ?_
            rintro e w5 ⟨rfl, rfl⟩
            go_wp2_with fail
            go_round
            case rel => exact ⟨m + 1, by go_num, by omega, by omega⟩
            case measure => simp [intOf]; omega
          · obtain rfl : m = Behind k := by omega
            clear hlm hm1 hm0
            have hma := may_at k x
            have hW : Hid (WaitR (k + 1) = Behind k) := wait_behind k (by omega)
            go_wp2_with fail
            refine (retry_may_b _ _ _ _ true _ hT4 (by omega) (by omega) hma).mono ?_
            clear hma
            rintro e w5 ⟨rfl, rfl⟩
            go_wp2_with fail
            refine (ref_wait _ (by omega) (by omega) _).mono ?_
            rintro e w6 ⟨rfl, k6⟩
            rw [hW.out]
            have hT6 := hT4.kp k6 id
            have hb6 := k6.below_of hb4 (by have := hb4.size; omega) (fun _ h => h.elim)
            have hbb : (Behind (k : Int) != Behind (k : Int)) = false := by simp
            go_wp2_with fail
            trace_state
            go_roundw
            case rel => exact ⟨k + 1, x + Behind k, _, by go_num, by go_num, by omega, by omega, by omega, hT6, hb6⟩
            case measure => simp [intOf]; omega
    · go_wp2_with fail
      go_ret
      exact ⟨rfl, hbw⟩
end Go.Proofs.Ytnjkoapkgoiljaa
