/- The walks of the reference of layer 20. -/
import Derived.Test.YtnjkoapkgoiljaaRetry
import Derived.Deep.RegionHeld3
import Derived.Deep.DeepCutAuto
import Derived.Deep.QuietTactic
import Derived.BigQuiet
namespace Go.Proofs.Ytnjkoapkgoiljaa
open Go.RowKit

/-- The reference's waiting time. -/
def WaitR (n : Int) : Int := if n = 0 then 0 else if n = 1 then 1 else if n = 2 then 2 else if n = 3 then 4 else if n = 4 then 8 else 16

theorem ref_wait (n : Int) (h0 : 0 ≤ n) (h1 : n < 1000000000) (w : World) :
    Calls Try.prog 20 #[.int .i64 n] w fun e w' => e = .returned (.int .i64 (WaitR n)) ∧ Kp (fun _ => False) w w' := by
  by_cases h5 : n < 5
  · obtain rfl | rfl | rfl | rfl | rfl : n = 0 ∨ n = 1 ∨ n = 2 ∨ n = 3 ∨ n = 4 := by omega
    all_goals
      go_enter Try.func20, Try.ntmps20
      go_wp2
      go_ret
      exact ⟨rfl, (Kp.refl _ _).alloc _⟩
  · have e : WaitR n = 16 := by unfold WaitR; omega
    rw [e]
    clear e
    go_enter Try.func20, Try.ntmps20
    go_wp2
    go_ret
    exact ⟨rfl, (Kp.refl _ _).alloc _⟩

/-- A timer of the reference. -/
def RefAt (w : World) (b : Nat) (n l : Int) : Prop := Blk w b #[.int .i64 n, .int .i64 l] 29

def MayR (n l now : Int) : Bool := decide (n = 0) || decide (l + WaitR n ≤ now)

theorem waitR_bd (n : Int) : 0 ≤ WaitR n ∧ WaitR n ≤ 16 := by unfold WaitR; omega

theorem ref_may (b : Nat) (n l now : Int) (w : World) (hT : RefAt w b n l) (hn0 : 0 ≤ n) (hn1 : n < 1000000000) (hl0 : 0 ≤ l) (hl1 : l < 4294967296) (h0 : 0 ≤ now) (h1 : now < 4294967296) :
    Calls Try.prog 19 #[.pointer (some ⟨b, 0, none⟩), .int .i64 now] w fun e w' => e = .returned (.bool (MayR n l now)) ∧ Kp (fun _ => False) w w' := by
  have c0 : w.cell? ⟨b, 0, none⟩ = some (.int .i64 n) := (hT.cell 0).trans rfl
  have c1 : w.cell? ⟨b, 1, none⟩ = some (.int .i64 l) := (hT.cell 1).trans rfl
  clear hT
  by_cases hn : n = 0
  · have e : (n == 0) = true := by simpa using hn
    go_enter Try.func19, Try.ntmps19
    go_wp2_with fail
    go_quiet (fail)
    go_wp2
    go_ret
    subst hn
    exact ⟨by simp [MayR], (Kp.refl _ _).drewN _⟩
  · have e : (n == 0) = false := by simpa using hn
    have hw := waitR_bd n
    go_enter Try.func19, Try.ntmps19
    go_wp2_with fail
    go_region_held3 (fun w' => w'.cell? ⟨b, 0, none⟩ = some (.int .i64 n) ∧ w'.cell? ⟨b, 1, none⟩ = some (.int .i64 l)) (first | go_keep | exact ⟨by assumption, by assumption⟩)
      (first | (go_at_call 20; refine (ref_wait n hn0 hn1 _).mono ?_; rintro e w' ⟨rfl, hk⟩; have d0 := hk.cell0 c0; have d1 := hk.cell0 c1))
    have hx : Hid (IntKind.i64.wrap (l + WaitR n) = l + WaitR n) := by
      unfold Hid
      simp only [IntKind.wrap_i64]
      omega
    go_wp2
    go_ret
    refine ⟨?_, (Kp.refl _ w).drew.trans hk⟩
    rw [hx.out]
    simp [MayR, hn]

theorem retry_may_b (b : Nat) (n at_ now : Int) (r : Bool) (w : World) (hT : TimerAt w b n at_) (h0 : 0 ≤ now) (h1 : now < 4294967296) (hr : May n at_ now = r) :
    Calls Try.prog 18 #[.pointer (some ⟨b, 0, none⟩), .int .u32 now] w fun e w' => e = .returned (.bool r) ∧ w = w' := hr ▸ retry_may b n at_ now w hT h0 h1

set_option maxHeartbeats 1000000 in
theorem retry_alive (w : World) : Calls Try.prog 13 #[] w fun e w' => e = .returned (.bool true) ∧ Kp (fun _ => False) w w' := by
  go_enter Try.func13, Try.ntmps13
  go_wp2_with fail
  refine (retry_new _).mono ?_
  rintro e w1 ⟨rfl, hT1, k1⟩
  go_wp2_with fail
  refine (retry_may_b _ _ _ _ true _ hT1 (by decide) (by decide) (by decide)).mono ?_
  rintro e w' ⟨rfl, rfl⟩
  go_wp2_with fail
  refine (retry_fail _ _ _ _ _ hT1 (by decide) (by decide) (by decide) (by decide)).mono ?_
  rintro e w2 ⟨rfl, hT2, k2⟩
  go_wp2_with fail
  refine (retry_may_b _ _ _ _ false _ hT2 (by decide) (by decide) (by decide)).mono ?_
  rintro e w' ⟨rfl, rfl⟩
  go_wp2_with fail
  refine (retry_may_b _ _ _ _ true _ hT2 (by decide) (by decide) (by decide)).mono ?_
  rintro e w' ⟨rfl, rfl⟩
  go_wp2_with fail
  refine (retry_fail _ _ _ _ _ hT2 (by decide) (by decide) (by decide) (by decide)).mono ?_
  rintro e w3 ⟨rfl, hT3, k3⟩
  go_wp2_with fail
  refine (retry_may_b _ _ _ _ false _ hT3 (by decide) (by decide) (by decide)).mono ?_
  rintro e w' ⟨rfl, rfl⟩
  go_wp2_with fail
  refine (retry_may_b _ _ _ _ true _ hT3 (by decide) (by decide) (by decide)).mono ?_
  rintro e w' ⟨rfl, rfl⟩
  go_wp2_with fail
  refine (retry_good _ _ _ _ hT3).mono ?_
  rintro e w4 ⟨rfl, hT4, k4⟩
  go_wp2_with fail
  refine (retry_may_b _ _ _ _ true _ hT4 (by decide) (by decide) (by decide)).mono ?_
  rintro e w' ⟨rfl, rfl⟩
  go_wp2_with fail
  refine (retry_fails _ _ _ _ hT4 (by decide) (by decide)).mono ?_
  rintro e w' ⟨rfl, rfl⟩
  go_wp2_with fail
  go_ret
  refine ⟨rfl, ((k1.then_ k2 ?_).then_ k3 ?_).then_ k4 ?_⟩
  all_goals
    rintro i rfl hi
    exact absurd hi (Nat.lt_irrefl _)
end Go.Proofs.Ytnjkoapkgoiljaa
