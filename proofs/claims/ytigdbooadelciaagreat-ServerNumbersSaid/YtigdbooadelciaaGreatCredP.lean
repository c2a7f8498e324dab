/- (templated: lib) The walks of package credit: each method by its contract. -/
import Derived.Test.YtigdbooadelciaaGreatChecked
import Derived.Test.YtigdbooadelciaaGreatOwn
import Derived.Deep.RegionHeld3
import Derived.Deep.QuietTactic
import Derived.BigQuiet
import Derived.Lib.Hide
namespace Go.Proofs.YtigdbooadelciaaGreat
set_option linter.unusedVariables false
set_option linter.unusedSimpArgs false
open Go.RowKit

theorem loadU32 (a : Addr) (v : Int) (w : World) (h0 : w.cell? a = some (.int .u32 v)) :
    (callFunc 212 #[.pointer (some a)]).run Tryz.prog w = .ok (.value (.int .u32 v)) w :=
  run_call_load (P := Tryz.prog) Tryz.func212 (by kernel_rfl) (by kernel_rfl) (by kernel_rfl) .u32 (by kernel_rfl) h0

theorem storeU32 (a : Addr) (v y : Int) (w : World) (h0 : w.cell? a = some (.int .u32 v)) (f0 : w.frozen? a = false) :
    (callFunc 265 #[.pointer (some a), .int .u32 y]).run Tryz.prog w = .ok (.value (.tuple #[])) (w.setCell a (.int .u32 y)) :=
  run_call_store (P := Tryz.prog) Tryz.func265 (by kernel_rfl) (by kernel_rfl) (by kernel_rfl) (by kernel_rfl) h0 f0

theorem casU32 (a : Addr) (v y : Int) (w : World) (h0 : w.cell? a = some (.int .u32 v)) (f0 : w.frozen? a = false) :
    (callFunc 268 #[.pointer (some a), .int .u32 v, .int .u32 y]).run Tryz.prog w = .ok (.value (.bool true)) (w.setCell a (.int .u32 y)) :=
  run_call_cas_hit (P := Tryz.prog) Tryz.func268 (by kernel_rfl) (by kernel_rfl) (by kernel_rfl) .u32 (by kernel_rfl) h0 f0

theorem loadU32_any (b o : Nat) (v : Int) (w : World) (h0 : w.cell? ⟨b, o, none⟩ = some (.int .u32 v)) :
    Calls Tryz.prog 160 #[.pointer (some ⟨b, o, none⟩)] w fun e w' => e = .returned (.int .u32 v) ∧ w = w' := by
  have hl := loadU32
  go_enter Tryz.func160, Tryz.ntmps160
  go_wp2
  go_ret
  exact ⟨rfl, rfl⟩

theorem storeU32_any (b o : Nat) (v y : Int) (w : World) (h0 : w.cell? ⟨b, o, none⟩ = some (.int .u32 v)) (f0 : w.frozen? ⟨b, o, none⟩ = false) :
    Calls Tryz.prog 210 #[.pointer (some ⟨b, o, none⟩), .int .u32 y] w fun e w' => e = .returned (.tuple #[]) ∧ w.setCell ⟨b, o, none⟩ (.int .u32 y) = w' := by
  have hs := storeU32
  go_enter Tryz.func210, Tryz.ntmps210
  go_wp2
  go_end0
  exact ⟨rfl, rfl⟩

theorem casU32_any (b o : Nat) (v y : Int) (w : World) (h0 : w.cell? ⟨b, o, none⟩ = some (.int .u32 v)) (f0 : w.frozen? ⟨b, o, none⟩ = false) :
    Calls Tryz.prog 211 #[.pointer (some ⟨b, o, none⟩), .int .u32 v, .int .u32 y] w fun e w' => e = .returned (.bool true) ∧ w.setCell ⟨b, o, none⟩ (.int .u32 y) = w' := by
  have hs := casU32
  go_enter Tryz.func211, Tryz.ntmps211
  go_wp2
  go_ret
  exact ⟨rfl, rfl⟩

/-- A window of package credit lies at block b. -/
def WinAt (w : World) (b : Nat) (s l : Int) : Prop := Blk w b #[.int .u32 s, .int .u32 l] 300

def Clip (n : Int) : Int := if n ≤ 1 then 1 else if n ≤ 8 then n else 8
theorem clip_bd (n : Int) : 1 ≤ Clip n ∧ Clip n ≤ 8 := by unfold Clip; omega

theorem win_new (n : Int) (w : World) : Calls Tryz.prog 157 #[.int .i64 n] w fun e w' =>
    e = .returned (.pointer (some ⟨w.heap.size, 0, none⟩)) ∧ WinAt w' w.heap.size (Clip n) (Clip n) ∧ Kp (fun _ => False) w w' := by
  have key : ∀ c : Int, WinAt (w.alloc (.cells #[.int .u32 c, .int .u32 c] 300)).drew w.heap.size c c ∧ Kp (fun _ => False) w (w.alloc (.cells #[.int .u32 c, .int .u32 c] 300)).drew := fun c =>
    ⟨(Blk.new w #[.int .u32 c, .int .u32 c] 300).drew, ((Kp.refl _ _).alloc _).drew⟩
  have cells : ∀ c : Int, (w.alloc (.cells #[.int .u32 c, .int .u32 0] 300)).drew.cell? ⟨w.heap.size, 1, none⟩ = some (.int .u32 0) ∧ (w.alloc (.cells #[.int .u32 c, .int .u32 0] 300)).drew.frozen? ⟨w.heap.size, 1, none⟩ = false := fun c =>
    ⟨((Blk.new w #[.int .u32 c, .int .u32 0] 300).drew.cell 1).trans rfl, (Blk.new w #[.int .u32 c, .int .u32 0] 300).drew.frozen 1⟩
  by_cases h1 : n ≤ 1
  · have e : Clip n = 1 := by unfold Clip; omega
    rw [e]
    have k := key 1
    have hst := cells 1
    clear key cells e
    go_enter Tryz.func157, Tryz.ntmps157
    go_wp2_with fail
    go_region_held3 (fun w' => w'.cell? ⟨w.heap.size, 0, none⟩ = some (.int .u32 1)) (first | go_keep | (simp; done))
      (first | (go_at_call 210; refine (storeU32_any _ 1 0 _ _ ?_ ?_).mono ?_; exact hst.1; exact hst.2; rintro e w' ⟨rfl, rfl⟩))
    go_wp2
    go_ret
    exact ⟨rfl, k.1, k.2⟩
  by_cases h8 : n ≤ 8
  · have e : Clip n = n := by unfold Clip; omega
    rw [e]
    have k := key n
    have hst := cells n
    clear key cells e
    go_enter Tryz.func157, Tryz.ntmps157
    go_wp2_with fail
    go_region_held3 (fun w' => w'.cell? ⟨w.heap.size, 0, none⟩ = some (.int .u32 n)) (first | go_keep | (simp; done))
      (first | (go_at_call 210; refine (storeU32_any _ 1 0 _ _ ?_ ?_).mono ?_; exact hst.1; exact hst.2; rintro e w' ⟨rfl, rfl⟩))
    go_wp2
    go_ret
    exact ⟨rfl, k.1, k.2⟩
  · have e : Clip n = 8 := by unfold Clip; omega
    rw [e]
    have k := key 8
    have hst := cells 8
    clear key cells e
    go_enter Tryz.func157, Tryz.ntmps157
    go_wp2_with fail
    go_region_held3 (fun w' => w'.cell? ⟨w.heap.size, 0, none⟩ = some (.int .u32 8)) (first | go_keep | (simp; done))
      (first | (go_at_call 210; refine (storeU32_any _ 1 0 _ _ ?_ ?_).mono ?_; exact hst.1; exact hst.2; rintro e w' ⟨rfl, rfl⟩))
    go_wp2
    go_ret
    exact ⟨rfl, k.1, k.2⟩

theorem win_limit (b : Nat) (s l : Int) (w : World) (hW : WinAt w b s l) :
    Calls Tryz.prog 105 #[.pointer (some ⟨b, 0, none⟩)] w fun e w' => e = .returned (.int .u32 l) ∧ w = w' := by
  have c1 : w.cell? ⟨b, 1, none⟩ = some (.int .u32 l) := (hW.cell 1).trans rfl
  clear hW
  go_enter Tryz.func105, Tryz.ntmps105
  go_wp2_with (go_at_call 160; refine (loadU32_any _ _ _ _ c1).mono ?_; rintro e w' ⟨rfl, rfl⟩)
  go_ret
  exact ⟨rfl, rfl⟩

theorem win_may (b : Nat) (s l req : Int) (w : World) (hW : WinAt w b s l) (h0 : 0 ≤ req) :
    Calls Tryz.prog 161 #[.pointer (some ⟨b, 0, none⟩), .int .u32 req] w fun e w' => e = .returned (.bool (decide (0 < req) && decide (req ≤ l))) ∧ w = w' := by
  have c1 : w.cell? ⟨b, 1, none⟩ = some (.int .u32 l) := (hW.cell 1).trans rfl
  clear hW
  by_cases h : 0 < req
  · have e : decide (0 < req) = true := by simpa using h
    go_enter Tryz.func161, Tryz.ntmps161
    go_wp2_with (go_at_call 160; refine (loadU32_any _ _ _ _ c1).mono ?_; rintro e w' ⟨rfl, rfl⟩)
    go_ret
    simp [h]
  · have e : decide (0 < req) = false := by simpa using h
    go_enter Tryz.func161, Tryz.ntmps161
    go_wp2
    go_ret
    simp [h]

/-- The greater one. -/
def Mx (a b : Int) : Int := if a < b then b else a
theorem mx_lt {a b : Int} (h : a < b) : Mx a b = b := if_pos h
theorem mx_ge {a b : Int} (h : ¬ a < b) : Mx a b = a := if_neg h

/-- What is told, held to the counter's greatest. -/
def Cap30 (n : Int) : Int := if n ≤ 1073741824 then n else 1073741824

theorem win_raise (b : Nat) (s l n : Int) (w : World) (hW : WinAt w b s l) (h0 : 0 ≤ n) (h1 : n < 4294967296) :
    Calls Tryz.prog 159 #[.pointer (some ⟨b, 0, none⟩), .int .u32 n] w fun e w' => e = .returned (.bool (decide (l < Cap30 n))) ∧ WinAt w' b s (Mx l (Cap30 n)) ∧ Kp (fun k => k = b) w w' := by
  have c1 : w.cell? ⟨b, 1, none⟩ = some (.int .u32 l) := (hW.cell 1).trans rfl
  have f1 := hW.frozen 1
  by_cases hn : n ≤ 1073741824
  · have e : Cap30 n = n := if_pos hn
    rw [e]
    clear e
    by_cases h : l < n
    · rw [mx_lt h, decide_eq_true h]
      go_enter Tryz.func159, Tryz.ntmps159
      go_wp2_with (first | (go_at_call 160; refine (loadU32_any _ _ _ _ c1).mono ?_; rintro e w' ⟨rfl, rfl⟩) | (go_at_call 211; refine (casU32_any _ _ _ _ _ c1 f1).mono ?_; rintro e w' ⟨rfl, rfl⟩))
      go_ret
      exact ⟨rfl, hW.set 1 _, (Kp.refl _ _).set1 _ _⟩
    · rw [mx_ge h, decide_eq_false h]
      go_enter Tryz.func159, Tryz.ntmps159
      go_wp2_with (first | (go_at_call 160; refine (loadU32_any _ _ _ _ c1).mono ?_; rintro e w' ⟨rfl, rfl⟩) | (go_at_call 211; refine (casU32_any _ _ _ _ _ c1 f1).mono ?_; rintro e w' ⟨rfl, rfl⟩))
      go_ret
      exact ⟨rfl, hW, Kp.refl _ _⟩
  · have e : Cap30 n = 1073741824 := if_neg hn
    rw [e]
    clear e
    by_cases h : l < 1073741824
    · rw [mx_lt h, decide_eq_true h]
      go_enter Tryz.func159, Tryz.ntmps159
      go_wp2_with (first | (go_at_call 160; refine (loadU32_any _ _ _ _ c1).mono ?_; rintro e w' ⟨rfl, rfl⟩) | (go_at_call 211; refine (casU32_any _ _ _ _ _ c1 f1).mono ?_; rintro e w' ⟨rfl, rfl⟩))
      go_ret
      exact ⟨rfl, hW.set 1 _, (Kp.refl _ _).set1 _ _⟩
    · rw [mx_ge h, decide_eq_false h]
      go_enter Tryz.func159, Tryz.ntmps159
      go_wp2_with (first | (go_at_call 160; refine (loadU32_any _ _ _ _ c1).mono ?_; rintro e w' ⟨rfl, rfl⟩) | (go_at_call 211; refine (casU32_any _ _ _ _ _ c1 f1).mono ?_; rintro e w' ⟨rfl, rfl⟩))
      go_ret
      exact ⟨rfl, hW, Kp.refl _ _⟩

/-- What 'had' raises to. -/
def HadTo (s n : Int) : Int := (if 1073741824 - s < n then 1073741824 - s else n) + s

theorem win_had (b : Nat) (s l n : Int) (w : World) (hW : WinAt w b s l) (hs0 : 0 ≤ s) (hs1 : s ≤ 8) (h0 : 0 ≤ n) (h1 : n < 4294967296) :
    Calls Tryz.prog 104 #[.pointer (some ⟨b, 0, none⟩), .int .u32 n] w fun e w' => e = .returned (.bool (decide (l < HadTo s n))) ∧ WinAt w' b s (Mx l (HadTo s n)) ∧ Kp (fun k => k = b) w w' := by
  have c0 : w.cell? ⟨b, 0, none⟩ = some (.int .u32 s) := (hW.cell 0).trans rfl
  have e : Cap30 (HadTo s n) = HadTo s n := by unfold Cap30 HadTo; omega
  have hb : 0 ≤ HadTo s n ∧ HadTo s n < 4294967296 := by unfold HadTo; omega
  have hr := win_raise b s l (HadTo s n) w.drew hW hb.1 hb.2
  rw [e] at hr
  have hx : IntKind.u32.wrap (1073741824 - s) = 1073741824 - s := IntWalk.u32_in _ ⟨by omega, by omega⟩
  by_cases hn : 1073741824 - s < n
  · have e2 : HadTo s n = 1073741824 := by unfold HadTo; rw [if_pos hn]; omega
    rw [e2] at hb hr ⊢
    have hy : True := trivial
    clear e2
    clear e hb
    have HR := Lib.hid hr
    clear hr hW
    go_enter Tryz.func104, Tryz.ntmps104
    go_wp2_with fail
    go_region_held3 (fun w' => w'.cell? ⟨b, 0, none⟩ = some (.int .u32 s)) (first | exact c0 | exact d0 | go_keep)
      (first | (go_at_call 159; refine HR.out.mono ?_; rintro e w' ⟨rfl, hw, hk⟩; have d0 : w'.cell? ⟨b, 0, none⟩ = some (.int .u32 s) := (hw.cell 0).trans rfl))
    clear hx hy
    go_wp2
    go_ret
    exact ⟨rfl, hw, (Kp.refl _ w).drew.trans hk⟩
  · have e2 : HadTo s n = n + s := by unfold HadTo; rw [if_neg hn]
    rw [e2] at hb hr ⊢
    have hy : IntKind.u32.wrap (n + s) = n + s := IntWalk.u32_in _ ⟨hb.1, by omega⟩
    have hf : (1073741824 - s < n) = False := by simp; omega
    clear e2
    clear e hb
    have HR := Lib.hid hr
    clear hr hW
    go_enter Tryz.func104, Tryz.ntmps104
    go_wp2_with fail
    go_region_held3 (fun w' => w'.cell? ⟨b, 0, none⟩ = some (.int .u32 s)) (first | exact c0 | exact d0 | go_keep)
      (first | (go_at_call 159; refine HR.out.mono ?_; rintro e w' ⟨rfl, hw, hk⟩; have d0 : w'.cell? ⟨b, 0, none⟩ = some (.int .u32 s) := (hw.cell 0).trans rfl))
    clear hx hy
    go_wp2
    go_ret
    exact ⟨rfl, hw, (Kp.refl _ w).drew.trans hk⟩

end Go.Proofs.YtigdbooadelciaaGreat
