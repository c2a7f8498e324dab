/- ServerIdle: a connection that is heard no more than Idle ticks apart stays open; one that isn't is told ErrIdle, and is shut: the walk. -/
import Derived.Test.YtigdbooadelciaaGreatIdle3
import Derived.Test.YtigdbooadelciaaGreatAlive
import Derived.Test.YtigdbooadelciaaGreatRd
namespace Go.Proofs.YtigdbooadelciaaGreat
set_option linter.unusedVariables false
set_option linter.unusedSimpArgs false
open Go.RowKit

def IdRel (w0 : World) (n bs : Nat) (idle : Int) (i : Value) (wr : World) : Prop := ∃ (k : Nat) (t : Int), k ≤ n ∧ k ≤ 20 ∧ i = .int .i64 k ∧ 0 ≤ t ∧ t ≤ 40 * k ∧ AtP (stS idle t t) w0 wr bs
def IdIn (w0 : World) (n bs : Nat) (idle t : Int) (j : Value) (wr : World) : Prop := ∃ (k : Nat), k ≤ n ∧ j = .int .u32 k ∧ ((k ≤ idle ∧ AtP (stS idle (t + k) t) w0 wr bs) ∨ (idle < k ∧ AtP (stT idle (t + k) t (t + idle + 1)) w0 wr bs))
set_option maxRecDepth 100000 in
set_option maxHeartbeats 4000000 in
theorem serverIdle_walk (v0 v1 : Value) (w : World) (h0 : Came Tryz.prog w 26 v0) (h1 : Came Tryz.prog w 22 v1) :
    Calls Tryz.prog 4 #[v0, v1] w fun e w' => e = .returned (.bool true) ∧ Below w.heap.size w w' := by
  obtain ⟨idle0, rfl, hn⟩ := Came.int Tryz.underlying26 h0
  have hn := bounds_u32 hn
  obtain ⟨A, len, cap, rfl, hs⟩ := Came.slIn Tryz.underlying22 (by kernel_rfl : Tryz.prog.cellsOf 5 = 1) (by decide) h1
  obtain ⟨l, rfl, hI, hwf⟩ := hs.ints Tryz.underlying5
  obtain ⟨A', cap', e, hlc, hlm, hrow⟩ := hI.one
  simp only [Value.slice.injEq] at e
  obtain ⟨rfl, -, rfl⟩ := e
  have hb : ∀ x ∈ l, 0 ≤ x ∧ x < 256 := fun x hx => by
    have := hwf x hx
    simp [Lit.wf] at this
    have e0 : IntKind.u8.min = 0 := rfl
    have e1 : IntKind.u8.max = 255 := rfl
    omega
  have hlen : l.length ≤ 9223372036854775807 := by simp only [maxLen] at hlm; omega
  have hrow := Lib.hid hrow
  have hb := Lib.hid hb
  clear h0 h1 hs hI hwf hlc hlm
  go_enter Tryz.func4, Tryz.ntmps4
  go_wp2_with fail
  refine (alive_calls _).mono ?_
  rintro e w1 ⟨rfl, k1⟩
  have k1 := Kp.of_below (fun _ => False) k1
  go_wp2_with fail
  have hid0 : 0 ≤ idle0 % 30 ∧ idle0 % 30 < 30 := by omega
  generalize idle0 % 30 = idle at *
  refine (set_calls_idle idle _).mono ?_
  rintro e w2 ⟨rfl, k2⟩
  go_wp2_with fail
  refine (newI idle _).mono ?_
  rintro e w3 ⟨bs, rfl, hA⟩
  have k12 := k1.trans k2
  clear k1 k2
  have hAH := Lib.hid (accI idle hA)
  clear hA
  go_wp2_with fail
  refine hAH.out.mono ?_
  rintro e w4 ⟨rfl, hA⟩
  clear hAH
  go_wp2_with fail
  have hAH := Lib.hid (frhI idle hA)
  clear hA
  refine Calls.mono (show Calls Tryz.prog _ #[msgC 1 3 0 0] _ _ from hAH.out) ?_
  rintro e w5 ⟨g, ext, rfl, hA⟩
  clear hAH
  go_wp2_with fail
  have hAH := Lib.hid (inhI idle hA)
  clear hA
  refine hAH.out.mono ?_
  rintro e w6 ⟨rfl, hA⟩
  clear hAH
  go_wp2_with fail
  have hAH := Lib.hid (outhI idle hA)
  clear hA
  refine hAH.out.mono ?_
  rintro e w7 ⟨g2, o2, c2, rfl, hA⟩
  clear hAH
  go_wp2_with fail
  go_loopw [6] (fun i wr => IdRel w2 l.length bs idle i wr) (fun i _ => l.length - (intOf i).toNat)
  case atStart => exact ⟨0, 0, by omega, by omega, rfl, by omega, by omega, hA⟩
  case round =>
    clear hA
    obtain ⟨k, t, hk, hk20, rfl, ht0, ht1, hA⟩ := hrel
    by_cases hlt : k < l.length ∧ k < 20
    · obtain ⟨hl1, hl2⟩ := hlt
      obtain ⟨g0, off, rfl, hc⟩ := hrow.out k hl1
      have hgb := hb.out l[k] (List.getElem_mem hl1)
      have hcell : wr.cell? ⟨g0, off + k, none⟩ = some (.int .u8 l[k]) := (Keeps.below (w := w) (k12.below.trans (hA.below.mono k12.size))) _ _ hc
      generalize l[k] = c at *
      have hl20 : decide ((k : Int) < 20) = true := decide_eq_true (by omega)
      obtain ⟨n, hnc, hn40⟩ : ∃ n : Nat, c % 40 = (n : Int) ∧ n < 40 := ⟨(c % 40).toNat, by omega, by omega⟩
      have hw1 : IntKind.u32.wrap (n : Int) = n := wrap_u32 (by omega)
      go_wp2_with fail
      clear hc hcell hnc
      go_loopw [8] (fun j w8 => IdIn w2 n bs idle t j w8) (fun j _ => n - (intOf j).toNat)
      case atStart => exact ⟨0, by omega, rfl, .inl ⟨by omega, by simpa using hA⟩⟩
      case round =>
        clear hA
        obtain ⟨j, hj, rfl, hcs⟩ := hrel
        by_cases hjn : j < n
        · have hw2 : IntKind.u32.wrap ((j : Int) + 1) = (j : Int) + 1 := wrap_u32 (by omega)
          have hd : decide ((j : Int) < (n : Int)) = true := decide_eq_true (by omega)
          have key : Calls Tryz.prog 14 #[.pointer (some ⟨bs, 0, none⟩)] wr fun e w' => e = .returned (.tuple #[]) ∧ (((j + 1 : Nat) ≤ idle ∧ AtP (stS idle (t + (j + 1 : Nat)) t) w2 w' bs) ∨ (idle < (j + 1 : Nat) ∧ AtP (stT idle (t + (j + 1 : Nat)) t (t + idle + 1)) w2 w' bs)) := by
            have ha : t + ((j + 1 : Nat) : Int) = t + j + 1 := by omega
            rw [ha]
            rcases hcs with ⟨h1, hA⟩ | ⟨h1, hA⟩
            · by_cases h2 : (j : Int) + 1 ≤ idle
              · refine (tickI idle (t + j) t hA (by omega) (by omega)).mono ?_
                rintro e w' ⟨rfl, g⟩
                exact ⟨rfl, .inl ⟨by omega, g⟩⟩
              · refine (tickJ idle (t + j) t hA (by omega) (by omega)).mono ?_
                rintro e w' ⟨rfl, g⟩
                refine ⟨rfl, .inr ⟨by omega, ?_⟩⟩
                rw [show t + idle + 1 = t + j + 1 by omega]
                exact g
            · refine (tickT idle (t + j) t (t + idle + 1) hA (by omega) (by omega) (by omega)).mono ?_
              rintro e w' ⟨rfl, g⟩
              exact ⟨rfl, .inr ⟨by omega, g⟩⟩
          have keyH := Lib.hid key
          clear key hcs
          go_wp2_with fail
          refine keyH.out.mono ?_
          rintro e w8 ⟨rfl, hcs⟩
          have hcsH := Lib.hid hcs
          clear hcs keyH
          go_wp2_with fail
          go_roundw
          case rel => exact ⟨j + 1, by omega, by go_num, hcsH.out⟩
          case measure => simp [intOf]; omega
        · have : j = n := by omega
          subst this
          have hd : decide ((j : Int) < (j : Int)) = false := decide_eq_false (by omega)
          rcases hcs with ⟨h1, hA⟩ | ⟨h1, hA⟩
          · have d1 : decide (idle < (j : Int)) = false := decide_eq_false (by omega)
            go_wp2_with fail
            have hH := Lib.hid (frI j hn40 idle _ _ hA)
            clear hA
            refine Calls.mono (show Calls Tryz.prog _ #[msgC 7 0 0 j] _ _ from hH.out) ?_
            rintro e w8 ⟨g3, ext3, rfl, hA⟩
            clear hH
            go_wp2_with fail
            have hH := Lib.hid (inI j hn40 idle _ _ hA)
            clear hA
            refine hH.out.mono ?_
            rintro e w9 ⟨rfl, hA⟩
            clear hH
            go_wp2_with fail
            have hH := Lib.hid (outI j hn40 idle _ hA)
            clear hA
            refine hH.out.mono ?_
            rintro e w10 ⟨g4, ext4, rfl, hA⟩
            clear hH
            go_wp2_with fail
            have hH := Lib.hid (allI j hn40 idle _ hA)
            clear hA
            refine hH.out.mono ?_
            rintro e w11 ⟨g5, c5, rfl, hA, hL⟩
            clear hH
            have l0 : w11.cell? ⟨g5, 0, none⟩ = some (.int .u8 8) := hL 0 _ rfl rfl
            have l5 : w11.cell? ⟨g5, 5, none⟩ = some (.int .u32 j) := hL 5 _ rfl rfl
            clear hL
            have hAH := Lib.hid hA
            clear hA
            have hjj : ((j : Int) != (j : Int)) = false := by simp
            go_wp2_with fail
            exact ⟨⟨k + 1, _, by omega, by omega, by go_num, by omega, by omega, hAH.out⟩, by simp [intOf]; omega⟩
          · have d1 : decide (idle < (j : Int)) = true := decide_eq_true (by omega)
            go_wp2_with fail
            have hH := Lib.hid (frcI j hn40 wr)
            refine Calls.mono (show Calls Tryz.prog _ #[msgC 7 0 0 j] _ _ from hH.out) ?_
            rintro e w8 ⟨g3, o3, c3, rfl, k8⟩
            clear hH
            have hA := hA.kp k8
            clear k8
            go_wp2_with fail
            have hH := Lib.hid (inT idle _ _ _ (.slice (some ⟨g3, o3, none⟩) 10 c3) rfl hA)
            clear hA
            refine hH.out.mono ?_
            rintro e w9 ⟨rfl, hA⟩
            clear hH
            go_wp2_with fail
            have hH := Lib.hid (outT idle _ _ _ hA)
            clear hA
            refine hH.out.mono ?_
            rintro e w10 ⟨g4, ext4, rfl, hA⟩
            clear hH
            go_wp2_with fail
            have hH := Lib.hid (allT hA)
            clear hA
            refine hH.out.mono ?_
            rintro e w11 ⟨g5, c5, rfl, hA, hL⟩
            clear hH
            have l0 : w11.cell? ⟨g5, 0, none⟩ = some (.int .u8 6) := hL 0 _ rfl rfl
            have l5 : w11.cell? ⟨g5, 4, none⟩ = some (.int .u8 190) := hL 4 _ rfl rfl
            clear hL
            have hAH := Lib.hid hA
            clear hA
            go_wp2_with fail
            go_ret
            exact ⟨rfl, k12.below.trans (hAH.out.mono k12.size)⟩
    · have hcase : (decide (k < l.length) = false) ∨ ((decide (k < l.length) = true) ∧ decide ((k : Int) < 20) = false) := by
        by_cases h : k < l.length
        · exact .inr ⟨by simpa using h, decide_eq_false (by omega)⟩
        · exact .inl (by simpa using h)
      have kB := k12.below.trans (hA.below.mono k12.size)
      have kBH := Lib.hid kB
      clear hlt hrow kB hA
      rcases hcase with hl | ⟨hl, hl2⟩
      all_goals
        go_wp2_with fail
        go_ret
        exact ⟨rfl, kBH.out⟩
end Go.Proofs.YtigdbooadelciaaGreat
