/- The references' Same of lists, on slices that hold the same: true; the reference's Great of strings. -/
import Derived.Test.YtigdbooadelciaaGreatChecked
import Derived.Test.YtigdbooadelciaaGreatRd
import Derived.Test.YtigdbooadelciaaGreatSt
import Derived.Test.YtigdbooadelciaaGreatMp
import Derived.Deep.RegionHeld3
import Derived.Deep.QuietTactic
import Derived.BigQuiet
import Derived.Deep.DeepCutAuto
import Derived.Deep.CutBlock
import Derived.Lib.Hide
import Derived.Deep.LoopGhost
namespace Go.Proofs.YtigdbooadelciaaGreat
set_option linter.unusedVariables false
set_option linter.unusedSimpArgs false
open Go.RowKit

def SameRel (w : World) (n : Nat) (i : Value) (wr : World) : Prop := ∃ k : Nat, k ≤ n ∧ i = .int .i64 k ∧ Kp (fun _ => False) w wr

theorem ints_same (v v' : Value) (l : List Int) (w : World) (h : Ints .i32 w v l) (h' : Ints .i32 w v' l) :
    Calls Tryz.prog 111 #[v, v'] w fun e w' => e = .returned (.bool true) ∧ Kp (fun _ => False) w w' := by
  obtain ⟨A, cap, rfl, hlc, hcm, hrow⟩ := h.one
  obtain ⟨A', cap', rfl, _, _, hrow'⟩ := h'.one
  clear h h'
  have hlm : l.length ≤ 9223372036854775807 := by simp only [maxLen] at hcm; omega
  clear hlc hcm
  have hnn : ((l.length : Int) != (l.length : Int)) = false := by simp
  have kk := Kp.refl (fun _ => False) w
  go_enter Tryz.func111, Tryz.ntmps111
  go_wp2_with fail
  go_loopw [5] (fun i wr => SameRel w l.length i wr) (fun i _ => l.length - (intOf i).toNat)
  case atStart => exact ⟨0, by omega, rfl, kk⟩
  case round =>
    clear kk hnn
    obtain ⟨k, hk, rfl, kk⟩ := hrel
    by_cases hlt : k < l.length
    · obtain ⟨b, off, rfl, hc⟩ := hrow k hlt
      obtain ⟨b', off', rfl, hc'⟩ := hrow' k hlt
      have d := kk.cell0 hc
      have d' := kk.cell0 hc'
      clear hc hc' hrow hrow'
      generalize l[k] = x at *
      have hxx : (x != x) = false := by simp
      go_wp2_with fail
      go_region_held3 (fun w' => w'.cell? ⟨b, off + k, none⟩ = some (.int .i32 x) ∧ w'.cell? ⟨b', off' + k, none⟩ = some (.int .i32 x)) (first | exact ⟨d, d'⟩ | go_keep) (fail)
      have kk := kk.drew
      go_wp2_with fail
      go_roundw
      case rel => exact ⟨k + 1, by omega, by go_num, kk⟩
      case measure => simp [intOf]; omega
    · go_wp2_with fail
      go_ret
      exact ⟨rfl, kk⟩

theorem strs_same (v v' : Value) (l : List ByteArray) (w : World) (h : Strs w v l) (h' : Strs w v' l) :
    Calls Tryz.prog 112 #[v, v'] w fun e w' => e = .returned (.bool true) ∧ Kp (fun _ => False) w w' := by
  obtain ⟨A, cap, rfl, hlc, hcm, hrow⟩ := h.one
  obtain ⟨A', cap', rfl, _, _, hrow'⟩ := h'.one
  clear h h'
  have hlm : l.length ≤ 9223372036854775807 := by simp only [maxLen] at hcm; omega
  clear hlc hcm
  have hnn : ((l.length : Int) != (l.length : Int)) = false := by simp
  have kk := Kp.refl (fun _ => False) w
  go_enter Tryz.func112, Tryz.ntmps112
  go_wp2_with fail
  go_loopw [5] (fun i wr => SameRel w l.length i wr) (fun i _ => l.length - (intOf i).toNat)
  case atStart => exact ⟨0, by omega, rfl, kk⟩
  case round =>
    clear kk hnn
    obtain ⟨k, hk, rfl, kk⟩ := hrel
    by_cases hlt : k < l.length
    · obtain ⟨b, off, rfl, hc⟩ := hrow k hlt
      obtain ⟨b', off', rfl, hc'⟩ := hrow' k hlt
      have d := kk.cell0 hc
      have d' := kk.cell0 hc'
      clear hc hc' hrow hrow'
      generalize l[k] = x at *
      have hxx : (x != x) = false := by rw [bne, beq_dec]; simp
      go_wp2_with fail
      go_region_held3 (fun w' => w'.cell? ⟨b, off + k, none⟩ = some (.string x) ∧ w'.cell? ⟨b', off' + k, none⟩ = some (.string x)) (first | exact ⟨d, d'⟩ | go_keep) (fail)
      have kk := kk.drew
      go_wp2_with fail
      go_roundw
      case rel => exact ⟨k + 1, by omega, by go_num, kk⟩
      case measure => simp [intOf]; omega
    · go_wp2_with fail
      go_ret
      exact ⟨rfl, kk⟩

def SomeBool (p : Prop) (w : World) (e : Ending) (w' : World) : Prop := ∃ b : Bool, e = .returned (.bool b) ∧ (b = false → p) ∧ Kp (fun _ => False) w w'
def GreatRel (w : World) (l : List ByteArray) (n i : Value) (wr : World) : Prop := ∃ (k : Nat) (m : Int), k ≤ l.length ∧ i = .int .i64 k ∧ n = .int .i64 m ∧ 0 ≤ m ∧ m < 50000 ∧ (∀ j (h : j < l.length), j < k → m < 20000 → (l[j].size : Int) ≤ m) ∧ w = wr

end Go.Proofs.YtigdbooadelciaaGreat
