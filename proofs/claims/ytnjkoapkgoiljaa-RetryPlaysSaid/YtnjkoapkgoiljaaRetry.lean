/- The walks of package retry: each method by its contract. -/
import Derived.Test.YtnjkoapkgoiljaaChecked
import Derived.Test.YtnjkoapkgoiljaaOwn
namespace Go.Proofs.Ytnjkoapkgoiljaa
open Go.RowKit

theorem load32 (a : Addr) (v : Int) (w : World) (h0 : w.cell? a = some (.int .i32 v)) :
    (callFunc 53 #[.pointer (some a)]).run Try.prog w = .ok (.value (.int .i32 v)) w :=
  run_call_load (P := Try.prog) Try.func53 (by kernel_rfl) (by kernel_rfl) (by kernel_rfl) .i32 (by kernel_rfl) h0

theorem store32 (a : Addr) (v y : Int) (w : World) (h0 : w.cell? a = some (.int .i32 v)) (f0 : w.frozen? a = false) :
    (callFunc 54 #[.pointer (some a), .int .i32 y]).run Try.prog w = .ok (.value (.tuple #[])) (w.setCell a (.int .i32 y)) :=
  run_call_store (P := Try.prog) Try.func54 (by kernel_rfl) (by kernel_rfl) (by kernel_rfl) (by kernel_rfl) h0 f0

theorem load32_any (b : Nat) (v : Int) (w : World) (h0 : w.cell? ⟨b, 0, none⟩ = some (.int .i32 v)) :
    Calls Try.prog 41 #[.pointer (some ⟨b, 0, none⟩)] w fun e w' => e = .returned (.int .i32 v) ∧ w = w' := by
  have hl := load32
  go_enter Try.func41, Try.ntmps41
  go_wp2
  go_ret
  exact ⟨rfl, rfl⟩

theorem store32_any (b : Nat) (v y : Int) (w : World) (h0 : w.cell? ⟨b, 0, none⟩ = some (.int .i32 v)) (f0 : w.frozen? ⟨b, 0, none⟩ = false) :
    Calls Try.prog 42 #[.pointer (some ⟨b, 0, none⟩), .int .i32 y] w fun e w' => e = .returned (.tuple #[]) ∧ w.setCell ⟨b, 0, none⟩ (.int .i32 y) = w' := by
  have hs := store32
  go_enter Try.func42, Try.ntmps42
  go_wp2
  go_end0
  exact ⟨rfl, rfl⟩

/-- A timer of package retry lies at block b. -/
def TimerAt (w : World) (b : Nat) (n at_ : Int) : Prop := Blk w b #[.int .i32 n, .int .u64 at_] 93

def May (n at_ now : Int) : Bool := decide (n = 0) || decide (at_ ≤ now)

theorem retry_new (w : World) : Calls Try.prog 14 #[] w fun e w' =>
    e = .returned (.pointer (some ⟨w.heap.size, 0, none⟩)) ∧ TimerAt w' w.heap.size 0 0 ∧ Kp (fun _ => False) w w' := by
  go_enter Try.func14, Try.ntmps14
  go_wp2
  go_ret
  exact ⟨rfl, Blk.new _ _ _, (Kp.refl _ _).alloc _⟩

theorem retry_may (b : Nat) (n at_ now : Int) (w : World) (hT : TimerAt w b n at_) (h0 : 0 ≤ now) (h1 : now < 4294967296) :
    Calls Try.prog 18 #[.pointer (some ⟨b, 0, none⟩), .int .u32 now] w fun e w' => e = .returned (.bool (May n at_ now)) ∧ w = w' := by
  have hl := load32
  have c0 : w.cell? ⟨b, 0, none⟩ = some (.int .i32 n) := (hT.cell 0).trans rfl
  have c1 : w.cell? ⟨b, 1, none⟩ = some (.int .u64 at_) := (hT.cell 1).trans rfl
  clear hT
  by_cases hn : n = 0
  · have e : (n == 0) = true := by simpa using hn
    go_enter Try.func18, Try.ntmps18
    go_wp2
    go_ret
    refine ⟨?_, rfl⟩
    subst hn
    simp [May]
  · have e : (n == 0) = false := by simpa using hn
    go_enter Try.func18, Try.ntmps18
    go_wp2
    go_ret
    refine ⟨?_, rfl⟩
    simp [May, hn]

theorem retry_fails (b : Nat) (n at_ : Int) (w : World) (hT : TimerAt w b n at_) (h0 : 0 ≤ n) (h1 : n < 2000000000) :
    Calls Try.prog 17 #[.pointer (some ⟨b, 0, none⟩)] w fun e w' => e = .returned (.int .i64 n) ∧ w = w' := by
  have c0 : w.cell? ⟨b, 0, none⟩ = some (.int .i32 n) := (hT.cell 0).trans rfl
  clear hT
  go_enter Try.func17, Try.ntmps17
  go_wp2_with (go_at_call 41; refine (load32_any _ _ _ c0).mono ?_; rintro e w' ⟨rfl, rfl⟩)
  go_ret
  exact ⟨rfl, rfl⟩

theorem retry_good (b : Nat) (n at_ : Int) (w : World) (hT : TimerAt w b n at_) :
    Calls Try.prog 16 #[.pointer (some ⟨b, 0, none⟩)] w fun e w' => e = .returned (.tuple #[]) ∧ TimerAt w' b 0 at_ ∧ Kp (fun k => k = b) w w' := by
  have c0 : w.cell? ⟨b, 0, none⟩ = some (.int .i32 n) := (hT.cell 0).trans rfl
  have f0 := hT.frozen 0
  go_enter Try.func16, Try.ntmps16
  go_wp2_with (go_at_call 42; refine (store32_any _ _ _ _ c0 f0).mono ?_; rintro e w' ⟨rfl, rfl⟩)
  go_end0
  exact ⟨rfl, hT.set 0 _, (Kp.refl _ _).set1 _ _⟩

/-- When it may be tried again: so much behind. -/
def Behind (n : Int) : Int := if n = 0 then 1 else if n = 1 then 2 else if n = 2 then 4 else if n = 3 then 8 else 16

theorem behind_pow (n : Int) (h0 : 0 ≤ n) (h : n ≤ 4) : ((2 : Int) ^ n.toNat) = Behind n := by
  obtain rfl | rfl | rfl | rfl | rfl : n = 0 ∨ n = 1 ∨ n = 2 ∨ n = 3 ∨ n = 4 := by omega
  all_goals rfl

theorem behind_bd (n : Int) : 1 ≤ Behind n ∧ Behind n ≤ 16 := by unfold Behind; omega

theorem retry_fail (b : Nat) (n at_ now : Int) (w : World) (hT : TimerAt w b n at_) (h0 : 0 ≤ now) (h1 : now < 4294967296) (hn0 : 0 ≤ n) (hn : n < 1000000000) :
    Calls Try.prog 15 #[.pointer (some ⟨b, 0, none⟩), .int .u32 now] w fun e w' => e = .returned (.tuple #[]) ∧ TimerAt w' b (n + 1) (now + Behind n) ∧ Kp (fun k => k = b) w w' := by
  have c0 : w.cell? ⟨b, 0, none⟩ = some (.int .i32 n) := (hT.cell 0).trans rfl
  have c1 : w.cell? ⟨b, 1, none⟩ = some (.int .u64 at_) := (hT.cell 1).trans rfl
  have f0 := hT.frozen 0
  have f1 := hT.frozen 1
  by_cases h4 : n ≤ 4
  · have hb := behind_bd n
    have he : Hid (IntKind.u64.wrap (now + IntKind.u64.wrap (2 ^ n.toNat)) = now + Behind n) := by
      rw [behind_pow n hn0 h4]
      unfold Hid
      simp only [IntKind.wrap_u64]
      omega
    go_enter Try.func15, Try.ntmps15
    go_wp2_with (go_at_call 41; refine (load32_any _ _ _ c0).mono ?_; rintro e w' ⟨rfl, rfl⟩)
    refine (store32_any _ n _ _ ?_ ?_).mono ?_
    · exact ((hT.set 1 _).cell 0).trans rfl
    · exact (hT.set 1 _).frozen 0
    rintro e w' ⟨rfl, rfl⟩
    go_wp2
    go_end0
    refine ⟨rfl, ?_, ((Kp.refl _ _).set1 _ _).set1 _ _⟩
    rw [he.out]
    exact (hT.set 1 _).set 0 _
  · have hb : Behind n = 16 := by unfold Behind; omega
    go_enter Try.func15, Try.ntmps15
    go_wp2_with (go_at_call 41; refine (load32_any _ _ _ c0).mono ?_; rintro e w' ⟨rfl, rfl⟩)
    refine (store32_any _ n _ _ ?_ ?_).mono ?_
    · exact ((hT.set 1 _).cell 0).trans rfl
    · exact (hT.set 1 _).frozen 0
    rintro e w' ⟨rfl, rfl⟩
    go_wp2
    go_end0
    refine ⟨rfl, ?_, ((Kp.refl _ _).set1 _ _).set1 _ _⟩
    rw [hb]
    exact (hT.set 1 _).set 0 _
end Go.Proofs.Ytnjkoapkgoiljaa
