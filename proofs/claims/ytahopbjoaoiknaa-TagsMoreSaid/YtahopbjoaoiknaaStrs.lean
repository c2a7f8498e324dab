/- The references' Same of lists, on slices that hold the same: true; the reference's Great of strings. -/
import Derived.Test.YtahopbjoaoiknaaChecked
import Derived.Test.YtahopbjoaoiknaaRd
import Derived.Test.YtahopbjoaoiknaaSt
import Derived.Test.YtahopbjoaoiknaaMp
import Derived.Deep.RegionHeld3
import Derived.Deep.QuietTactic
import Derived.BigQuiet
import Derived.Deep.DeepCutAuto
import Derived.Deep.CutBlock
import Derived.Lib.Hide
import Derived.Deep.LoopGhost
namespace Go.Proofs.Ytahopbjoaoiknaa
set_option linter.unusedVariables false
set_option linter.unusedSimpArgs false
open Go.RowKit

def SameRel (w : World) (n : Nat) (i : Value) (wr : World) : Prop := ∃ k : Nat, k ≤ n ∧ i = .int .i64 k ∧ Kp (fun _ => False) w wr

theorem ints_same (v v' : Value) (l : List Int) (w : World) (h : Ints .i32 w v l) (h' : Ints .i32 w v' l) :
    Calls Try.prog 77 #[v, v'] w fun e w' => e = .returned (.bool true) ∧ Kp (fun _ => False) w w' := by
  obtain ⟨A, cap, rfl, hlc, hcm, hrow⟩ := h.one
  obtain ⟨A', cap', rfl, _, _, hrow'⟩ := h'.one
  clear h h'
  have hlm : l.length ≤ 9223372036854775807 := by simp only [maxLen] at hcm; omega
  clear hlc hcm
  have hnn : ((l.length : Int) != (l.length : Int)) = false := by simp
  have kk := Kp.refl (fun _ => False) w
  go_enter Try.func77, Try.ntmps77
  go_wp2_with fail
  go_loopw [5] (fun i wr => SameRel w l.length i wr) (fun i _ => l.length - (intOf i).toNat)
  case atStart => exact ⟨0, by omega, rfl, kk⟩
  case round =>
    clear kk hnn
    obtain ⟨k, hk, rfl, kk⟩ := hrel
    by_cases hlt : k < l.length
    · obtain ⟨b, off, rfl, hc⟩ := hrow k hlt
      obtain ⟨b', off', rfl, hc'⟩ := hrow' k hlt
      have d := kk.cell0 hc
      have d' := kk.cell0 hc'
      clear hc hc' hrow hrow'
      generalize l[k] = x at *
      have hxx : (x != x) = false := by simp
      go_wp2_with fail
      go_region_held3 (fun w' => w'.cell? ⟨b, off + k, none⟩ = some (.int .i32 x) ∧ w'.cell? ⟨b', off' + k, none⟩ = some (.int .i32 x)) (first | exact ⟨d, d'⟩ | go_keep) (fail)
      have kk := kk.drew
      go_wp2_with fail
      go_roundw
      case rel => exact ⟨k + 1, by omega, by go_num, kk⟩
      case measure => simp [intOf]; omega
    · go_wp2_with fail
      go_ret
      exact ⟨rfl, kk⟩

theorem strs_same (v v' : Value) (l : List ByteArray) (w : World) (h : Strs w v l) (h' : Strs w v' l) :
    Calls Try.prog 27 #[v, v'] w fun e w' => e = .returned (.bool true) ∧ Kp (fun _ => False) w w' := by
  obtain ⟨A, cap, rfl, hlc, hcm, hrow⟩ := h.one
  obtain ⟨A', cap', rfl, _, _, hrow'⟩ := h'.one
  clear h h'
  have hlm : l.length ≤ 9223372036854775807 := by simp only [maxLen] at hcm; omega
  clear hlc hcm
  have hnn : ((l.length : Int) != (l.length : Int)) = false := by simp
  have kk := Kp.refl (fun _ => False) w
  go_enter Try.func27, Try.ntmps27
  go_wp2_with fail
  go_loopw [5] (fun i wr => SameRel w l.length i wr) (fun i _ => l.length - (intOf i).toNat)
  case atStart => exact ⟨0, by omega, rfl, kk⟩
  case round =>
    clear kk hnn
    obtain ⟨k, hk, rfl, kk⟩ := hrel
    by_cases hlt : k < l.length
    · obtain ⟨b, off, rfl, hc⟩ := hrow k hlt
      obtain ⟨b', off', rfl, hc'⟩ := hrow' k hlt
      have d := kk.cell0 hc
      have d' := kk.cell0 hc'
      clear hc hc' hrow hrow'
      generalize l[k] = x at *
      have hxx : (x != x) = false := by rw [bne, beq_dec]; simp
      go_wp2_with fail
      go_region_held3 (fun w' => w'.cell? ⟨b, off + k, none⟩ = some (.string x) ∧ w'.cell? ⟨b', off' + k, none⟩ = some (.string x)) (first | exact ⟨d, d'⟩ | go_keep) (fail)
      have kk := kk.drew
      go_wp2_with fail
      go_roundw
      case rel => exact ⟨k + 1, by omega, by go_num, kk⟩
      case measure => simp [intOf]; omega
    · go_wp2_with fail
      go_ret
      exact ⟨rfl, kk⟩

def SomeBool (p : Prop) (w : World) (e : Ending) (w' : World) : Prop := ∃ b : Bool, e = .returned (.bool b) ∧ (b = false → p) ∧ Kp (fun _ => False) w w'
def GreatRel (w : World) (l : List ByteArray) (n i : Value) (wr : World) : Prop := ∃ (k : Nat) (m : Int), k ≤ l.length ∧ i = .int .i64 k ∧ n = .int .i64 m ∧ 0 ≤ m ∧ m < 50000 ∧ (∀ j (h : j < l.length), j < k → m < 20000 → (l[j].size : Int) ≤ m) ∧ w = wr

theorem strs_great (v : Value) (l : List ByteArray) (w : World) (h : Strs w v l) :
    Calls Try.prog 10 #[v] w (SomeBool (l.length ≤ 300 ∧ ∀ s ∈ l, s.size < 20000) w) := by
  obtain ⟨A, cap, rfl, hlc, hcm, hrow⟩ := h.one
  have hlm : l.length ≤ 9223372036854775807 := by simp only [maxLen] at hcm; omega
  clear hlc hcm h
  go_enter Try.func10, Try.ntmps10
  go_wp2_with fail
  go_loopw [3, 4] (fun n i wr => GreatRel w l n i wr) (fun _ i _ => l.length - (intOf i).toNat)
  case atStart => exact ⟨0, 0, by omega, rfl, rfl, by omega, by omega, fun j _ h _ => absurd h (by omega), rfl⟩
  case round =>
    obtain ⟨k, m, hk, rfl, rfl, hm0, hm1, hall, rfl⟩ := hrel
    by_cases hlt : k < l.length ∧ m < 20000
    · obtain ⟨hlt, hm2⟩ := hlt
      obtain ⟨b, off, rfl, hc⟩ := hrow k hlt
      generalize hx : l[k] = x at *
      clear hrow
      go_wp2_with fail
      refine ⟨⟨k + 1, _, by omega, by go_num, rfl, ?_, ?_, fun j hj hjk hmm => ?_, rfl⟩, by simp [intOf]; omega⟩
      · split <;> omega
      · split <;> omega
      · by_cases hjj : j = k
        · subst hjj
          rw [hx]
          split at hmm <;> split <;> omega
        · have := hall j hj (by omega) hm2
          split at hmm <;> split <;> omega
    · by_cases hm2 : m < 20000
      · have hkl : k = l.length := by omega
        subst hkl
        have hs : ∀ s ∈ l, s.size < 20000 := fun s hs => by
          obtain ⟨j, hj, rfl⟩ := List.mem_iff_getElem.1 hs
          have := hall j hj hj hm2
          omega
        clear hall hrow hlt
        by_cases h3 : l.length ≤ 300
        · go_wp2_with fail
          go_ret
          exact ⟨_, rfl, fun _ => ⟨h3, hs⟩, Kp.refl _ _⟩
        · go_wp2_with fail
          go_ret
          exact ⟨_, rfl, fun h => by exfalso; simp at h; omega, Kp.refl _ _⟩
      · have hge : 20000 ≤ m := by omega
        clear hall hrow
        have hcase : (decide (k < l.length) = false) ∨ ((decide (k < l.length) = true) ∧ ¬ m < 20000) := by
          by_cases h : k < l.length
          · exact .inr ⟨by simpa using h, by omega⟩
          · exact .inl (by simpa using h)
        clear hlt
        rcases hcase with hl | ⟨hl, hl2⟩
        all_goals
          go_wp2_with fail
          go_ret
          exact ⟨_, rfl, by simp, Kp.refl _ _⟩
end Go.Proofs.Ytahopbjoaoiknaa
