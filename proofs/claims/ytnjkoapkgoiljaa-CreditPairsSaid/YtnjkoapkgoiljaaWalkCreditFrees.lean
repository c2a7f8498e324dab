/- CreditFrees: as many numbers may come as are told: the walk. -/
import Derived.Test.YtnjkoapkgoiljaaCredit
import Derived.Test.YtnjkoapkgoiljaaCame
namespace Go.Proofs.Ytnjkoapkgoiljaa
open Go.RowKit

theorem u32bc {n : Int} (h : (Lit.int .u32 n).wf = true) : 0 ≤ n ∧ n < 4294967296 := by
  have := bounds_u32 h
  omega

theorem win_may_b (b : Nat) (s l req : Int) (r : Bool) (w : World) (hW : WinAt w b s l) (h0 : 0 ≤ req) (hr : (decide (0 < req) && decide (req ≤ l)) = r) :
    Calls Try.prog 27 #[.pointer (some ⟨b, 0, none⟩), .int .u32 req] w fun e w' => e = .returned (.bool r) ∧ w = w' := hr ▸ win_may b s l req w hW h0
theorem win_free_v (b : Nat) (s l next v : Int) (w : World) (hW : WinAt w b s l) (hl0 : 0 ≤ l) (hl1 : l ≤ 1073741824) (h0 : 0 ≤ next) (hv : (if next = 0 ∨ l < next then 0 else l - next + 1) = v) :
    Calls Try.prog 26 #[.pointer (some ⟨b, 0, none⟩), .int .u32 next] w fun e w' => e = .returned (.int .u32 v) ∧ w = w' := hv ▸ win_free b s l next w hW hl0 hl1 h0

theorem hadTo_bd {s n : Int} (hs0 : 1 ≤ s) (hs1 : s ≤ 8) (h0 : 0 ≤ n) : 1 ≤ HadTo s n ∧ HadTo s n ≤ 1073741824 := by unfold HadTo; omega
theorem mx_bd {a b c d : Int} (h : c ≤ a ∧ a ≤ d) (h' : c ≤ b ∧ b ≤ d) : c ≤ Mx a b ∧ Mx a b ≤ d := by unfold Mx; split <;> assumption

set_option maxHeartbeats 1000000 in
theorem creditFrees_walk (v0 v1 v2 : Value) (w : World) (h0 : Came Try.prog w 3 v0) (h1 : Came Try.prog w 30 v1) (h2 : Came Try.prog w 30 v2) :
    Calls Try.prog 8 #[v0, v1, v2] w fun e w' => e = .returned (.bool true) ∧ Below w.heap.size w w' := by
  obtain ⟨size, rfl, _⟩ := Came.int Try.underlying3 h0
  obtain ⟨had, rfl, hh⟩ := Came.int Try.underlying30 h1
  obtain ⟨next, rfl, hn⟩ := Came.int Try.underlying30 h2
  have hh := u32bc hh
  have hn := u32bc hn
  clear h0 h1 h2
  go_enter Try.func8, Try.ntmps8
  go_wp2_with fail
  refine (win_alive _).mono ?_
  rintro e w1 ⟨rfl, k1⟩
  go_wp2_with fail
  refine (win_new size _).mono ?_
  rintro e w2 ⟨rfl, hW, k2⟩
  have hc := clip_bd size
  go_wp2_with fail
  refine (win_had _ _ _ _ _ hW (by omega) hc.2 hh.1 hh.2).mono ?_
  rintro e w3 ⟨rfl, hW3, k3⟩
  have kk := ((k1.trans k2).then_ k3 (fun i hi hlt => by subst hi; exact absurd (Nat.lt_of_lt_of_le hlt k1.size) (Nat.lt_irrefl _))).below
  have hb := mx_bd (a := Clip size) (b := HadTo (Clip size) had) (c := 1) (d := 1073741824) ⟨hc.1, by omega⟩ (hadTo_bd hc.1 hc.2 hh.1)
  clear hW k1 k2 k3
  generalize Mx (Clip size) (HadTo (Clip size) had) = l at *
  generalize Clip size = s at *
  generalize decide (s < HadTo s had) = rr at *
  generalize w1.heap.size = bW at *
  by_cases hz : next = 0 ∨ l < next
  · go_wp2_with fail
    refine (win_free_v _ _ _ _ 0 _ hW3 (by omega) hb.2 hn.1 (if_pos hz)).mono ?_
    rintro e w4 ⟨rfl, rfl⟩
    by_cases hz0 : next = 0
    · have e0 : (next == 0) = true := by simpa using hz0
      clear hz0
      go_wp2_with fail
      go_ret
      exact ⟨rfl, kk⟩
    · have e0 : (next == 0) = false := by simpa using hz0
      have hr : (decide (0 < next) && decide (next ≤ l)) = false := by simp; omega
      have HR := Lib.hid hr
      clear hr hz hz0
      go_wp2_with fail
      refine (win_may_b _ _ _ _ false _ hW3 hn.1 HR.out).mono ?_
      rintro e w4 ⟨rfl, rfl⟩
      go_wp2_with fail
      go_ret
      exact ⟨rfl, kk⟩
  · have hne : (l - next + 1 == 0) = false := by simp; omega
    have hlt : 1 ≤ next ∧ next ≤ l := by omega
    have HF := Lib.hid (if_neg hz : (if next = 0 ∨ l < next then (0 : Int) else l - next + 1) = l - next + 1)
    have H1 : Hid ((decide (0 < next) && decide (next ≤ l)) = true) := by unfold Hid; simp; omega
    have H2 : Hid ((decide (0 < next + (l - next + 1) - 1) && decide (next + (l - next + 1) - 1 ≤ l)) = true) := by unfold Hid; simp; omega
    have H3 : Hid ((decide (0 < next + (l - next + 1)) && decide (next + (l - next + 1) ≤ l)) = false) := by unfold Hid; simp; omega
    clear hz
    go_wp2_with fail
    refine (win_free_v _ _ _ _ _ _ hW3 (by omega) hb.2 hn.1 HF.out).mono ?_
    rintro e w4 ⟨rfl, rfl⟩
    go_wp2_with fail
    refine (win_may_b _ _ _ _ true _ hW3 hn.1 H1.out).mono ?_
    rintro e w4 ⟨rfl, rfl⟩
    go_wp2_with fail
    refine (win_may_b _ _ _ _ true _ hW3 (by omega) H2.out).mono ?_
    rintro e w4 ⟨rfl, rfl⟩
    go_wp2_with fail
    refine (win_may_b _ _ _ _ false _ hW3 (by omega) H3.out).mono ?_
    rintro e w4 ⟨rfl, rfl⟩
    go_wp2_with fail
    go_ret
    exact ⟨rfl, kk⟩
end Go.Proofs.Ytnjkoapkgoiljaa
