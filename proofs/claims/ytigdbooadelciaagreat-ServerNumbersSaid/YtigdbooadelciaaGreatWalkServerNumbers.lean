/- ServerNumbers: connections have rising numbers; what isn't there is told so, by each call; what was closed is there no more: the walk. -/
import Derived.Test.YtigdbooadelciaaGreatSrv3
import Derived.Test.YtigdbooadelciaaGreatAlive
import Derived.Test.YtigdbooadelciaaGreatRd
namespace Go.Proofs.YtigdbooadelciaaGreat
set_option linter.unusedVariables false
set_option linter.unusedSimpArgs false
open Go.RowKit

theorem NumAt.base {w : World} {B B' bs be bh bm bc bl : Nat} {last : Int} {ks : List (Int × Nat)} {cs : ConL} (h : NumAt w B bs be bh bm bc bl last ks cs) (hB : B' ≤ B) : NumAt w B' bs be bh bm bc bl last ks cs :=
  ⟨h.blk, h.km, ⟨h.hub.blk, h.hub.cm, h.hub.lm, fun p hp => ⟨Nat.le_trans hB (h.hub.con p hp).1, (h.hub.con p hp).2⟩, fun p hp => by simp at hp, Nat.le_trans hB h.hub.hbh, Nat.le_trans hB h.hub.hbc, Nat.le_trans hB h.hub.hbl, h.hub.maps, h.hub.cnd, h.hub.snd, h.hub.dnd, h.hub.wnd⟩, h.new, h.keys, h.bds, h.ne1, h.ne2, Nat.le_trans hB h.hbs, Nat.le_trans hB h.hbm⟩
def NumRel (w0 : World) (n : Nat) (bs be bh bm bc bl : Nat) (last op i : Value) (wr : World) : Prop := ∃ (k : Nat) (lst : Int) (ks : List (Int × Nat)) (cs : ConL), k ≤ n ∧ k ≤ 60 ∧ i = .int .i64 k ∧ last = .int .i64 lst ∧ 0 ≤ lst ∧ lst ≤ k ∧ op = .int .i64 ks.length ∧ ks.length ≤ 8 ∧ NumAt wr w0.heap.size bs be bh bm bc bl lst ks cs ∧ Below w0.heap.size w0 wr

set_option maxRecDepth 8000 in
set_option maxHeartbeats 4000000 in
theorem serverNumbers_walk (v0 v1 : Value) (w : World) (h0 : Came Tryz.prog w 22 v0) (h1 : Came Tryz.prog w 3 v1) :
    Calls Tryz.prog 3 #[v0, v1] w fun e w' => e = .returned (.bool true) ∧ Below w.heap.size w w' := by
  obtain ⟨n, rfl, hn⟩ := Came.int Tryz.underlying3 h1
  obtain ⟨A, len, cap, rfl, hs⟩ := Came.slIn Tryz.underlying22 (by kernel_rfl : Tryz.prog.cellsOf 5 = 1) (by decide) h0
  obtain ⟨l, rfl, hI, hwf⟩ := hs.ints Tryz.underlying5
  obtain ⟨A', cap', e, hlc, hlm, hrow⟩ := hI.one
  simp only [Value.slice.injEq] at e
  obtain ⟨rfl, -, rfl⟩ := e
  have hb : ∀ x ∈ l, 0 ≤ x ∧ x < 256 := fun x hx => by
    have := hwf x hx
    simp [Lit.wf] at this
    have e0 : IntKind.u8.min = 0 := rfl
    have e1 : IntKind.u8.max = 255 := rfl
    omega
  have hlen : l.length ≤ 9223372036854775807 := by simp only [maxLen] at hlm; omega
  have hrow := Lib.hid hrow
  have hb := Lib.hid hb
  clear h0 h1 hs hI hwf hlc hlm
  go_enter Tryz.func3, Tryz.ntmps3
  go_wp2_with fail
  refine (alive_calls _).mono ?_
  rintro e w1 ⟨rfl, k1⟩
  have k1 := Kp.of_below (fun _ => False) k1
  go_wp2_with fail
  refine (set_calls _).mono ?_
  rintro e w2 ⟨rfl, k2⟩
  go_wp2_with fail
  refine (new_calls _).mono ?_
  rintro e w3 ⟨bs, be, bh, bm, bc, bl, rfl, hN, k3⟩
  go_wp2_with fail
  have kB : Below w.heap.size w w3 := ((k1.trans k2).trans k3).below
  have hN := NumAt.base hN (B' := w.heap.size) (Nat.le_trans k1.size k2.size)
  clear k1 k2 k3
  go_loopw [6, 7, 8] (fun last op i wr => NumRel w l.length bs be bh bm bc bl last op i wr) (fun _ _ i _ => l.length - (intOf i).toNat)
  case atStart => exact ⟨0, 0, [], [], by omega, by omega, rfl, rfl, by omega, by omega, rfl, by simp, hN, kB⟩
  case round =>
    clear kB hN
    obtain ⟨k, lst, ks, cs, hk, hk60, rfl, rfl, hl0, hlk, rfl, hk8, hN, kB⟩ := hrel
    by_cases hlt : k < l.length ∧ k < 60
    · obtain ⟨hl1, hl2⟩ := hlt
      obtain ⟨g0, off, rfl, hc⟩ := hrow.out k hl1
      have hgb := hb.out l[k] (List.getElem_mem hl1)
      have hcell : wr.cell? ⟨g0, off + k, none⟩ = some (.int .u8 l[k]) := (Keeps.below kB) _ _ hc
      generalize l[k] = c at *
      have hl60 : decide ((k : Int) < 60) = true := decide_eq_true (by omega)
      clear hc
      have key : True := trivial
      by_cases h3 : c % 3 = 0
      · by_cases hp : 0 < lst
        · have hd : decide (0 < lst) = true := decide_eq_true hp
          have ht : c.tmod 3 = 0 := by rw [Int.tmod_eq_emod_of_nonneg hgb.1]; exact h3
          have hm0 := Int.emod_nonneg c (by omega : lst ≠ 0)
          have hm1 := Int.emod_lt_of_pos c hp
          have hw : wrap64 (1 + c % lst) = 1 + c % lst := by unfold wrap64; omega
          by_cases hin : 1 + c % lst ∈ ks.map (·.1)
          · have hcl := Lib.hid (close_some (1 + c % lst) hN kB.size hin)
            clear hN
            go_wp2_with fail
            refine hcl.out.mono ?_
            rintro e w4 ⟨rfl, ks2, cs2, hN, hlen2, b2⟩
            replace kB := kB.trans b2
            have hop : (ks.length : Int) - 1 = (ks2.length : Int) := by omega
            clear hcl b2 hcell
            replace hk8 : ks2.length ≤ 8 := by omega
            go_wp2_with fail
            generalize ks2 = ks at *
            generalize cs2 = cs at *
            have hlenc : cs.length = ks.length := by have := congrArg List.length hN.keys; simpa using this.symm
            have hBw := kB.size
            by_cases h8 : ks.length < 8
            · have d8 : decide ((ks.length : Int) < 8) = true := decide_eq_true (by omega)
              have hac := accept_ok hN hBw (by omega) ⟨hl0, by omega⟩
              have hacH := Lib.hid hac
              clear hac hN
              refine hacH.out.mono ?_
              rintro e w5 ⟨rfl, kb, cb, hN5, b5⟩
              have hN5 := Lib.hid hN5
              have hll := Int.le_refl (lst + 1)
              have hne : (lst + 1 != lst + 1) = false := by simp
              go_wp2_with fail
              go_roundw
              case rel => exact ⟨k + 1, lst + 1, _, _, by omega, by omega, by go_num, rfl, by omega, by omega, by simp, by simp; omega, hN5.out, kB.trans b5⟩
              case measure => simp [intOf]; omega
            · have d8 : decide ((ks.length : Int) < 8) = false := decide_eq_false (by omega)
              have hac := accept_full hN (by omega) ⟨hl0, by omega⟩
              have hacH := Lib.hid hac
              have hNH := Lib.hid hN
              clear hac hN
              refine hacH.out.mono ?_
              rintro e w5 ⟨rfl, rfl⟩
              go_wp2_with fail
              go_roundw
              case rel => exact ⟨k + 1, lst, _, _, by omega, by omega, by go_num, rfl, by omega, by omega, rfl, by omega, hNH.out.kp0 (Kp.refl _ _).drew, kB.trans ((Kp.refl (fun _ => False) _).drew.below.mono hBw)⟩
              case measure => simp [intOf]; omega
          · have hcl := Lib.hid (close_none (1 + c % lst) hN hin)
            go_wp2_with fail
            refine hcl.out.mono ?_
            rintro e w4 ⟨rfl, rfl⟩
            clear hcl hcell
            go_wp2_with fail
            have hlenc : cs.length = ks.length := by have := congrArg List.length hN.keys; simpa using this.symm
            have hBw := kB.size
            by_cases h8 : ks.length < 8
            · have d8 : decide ((ks.length : Int) < 8) = true := decide_eq_true (by omega)
              have hac := accept_ok hN hBw (by omega) ⟨hl0, by omega⟩
              have hacH := Lib.hid hac
              clear hac hN
              refine hacH.out.mono ?_
              rintro e w5 ⟨rfl, kb, cb, hN5, b5⟩
              have hN5 := Lib.hid hN5
              have hll := Int.le_refl (lst + 1)
              have hne : (lst + 1 != lst + 1) = false := by simp
              go_wp2_with fail
              go_roundw
              case rel => exact ⟨k + 1, lst + 1, _, _, by omega, by omega, by go_num, rfl, by omega, by omega, by simp, by simp; omega, hN5.out, kB.trans b5⟩
              case measure => simp [intOf]; omega
            · have d8 : decide ((ks.length : Int) < 8) = false := decide_eq_false (by omega)
              have hac := accept_full hN (by omega) ⟨hl0, by omega⟩
              have hacH := Lib.hid hac
              have hNH := Lib.hid hN
              clear hac hN
              refine hacH.out.mono ?_
              rintro e w5 ⟨rfl, rfl⟩
              go_wp2_with fail
              go_roundw
              case rel => exact ⟨k + 1, lst, _, _, by omega, by omega, by go_num, rfl, by omega, by omega, rfl, by omega, hNH.out.kp0 (Kp.refl _ _).drew, kB.trans ((Kp.refl (fun _ => False) _).drew.below.mono hBw)⟩
              case measure => simp [intOf]; omega

        · have hd : decide (0 < lst) = false := decide_eq_false hp
          have ht : c.tmod 3 = 0 := by rw [Int.tmod_eq_emod_of_nonneg hgb.1]; exact h3
          go_wp2_with fail
          have hlenc : cs.length = ks.length := by have := congrArg List.length hN.keys; simpa using this.symm
          have hBw := kB.size
          by_cases h8 : ks.length < 8
          · have d8 : decide ((ks.length : Int) < 8) = true := decide_eq_true (by omega)
            have hac := accept_ok hN hBw (by omega) ⟨hl0, by omega⟩
            have hacH := Lib.hid hac
            clear hac hN
            refine hacH.out.mono ?_
            rintro e w5 ⟨rfl, kb, cb, hN5, b5⟩
            have hN5 := Lib.hid hN5
            have hll := Int.le_refl (lst + 1)
            have hne : (lst + 1 != lst + 1) = false := by simp
            go_wp2_with fail
            go_roundw
            case rel => exact ⟨k + 1, lst + 1, _, _, by omega, by omega, by go_num, rfl, by omega, by omega, by simp, by simp; omega, hN5.out, kB.trans b5⟩
            case measure => simp [intOf]; omega
          · have d8 : decide ((ks.length : Int) < 8) = false := decide_eq_false (by omega)
            have hac := accept_full hN (by omega) ⟨hl0, by omega⟩
            have hacH := Lib.hid hac
            have hNH := Lib.hid hN
            clear hac hN
            refine hacH.out.mono ?_
            rintro e w5 ⟨rfl, rfl⟩
            go_wp2_with fail
            go_roundw
            case rel => exact ⟨k + 1, lst, _, _, by omega, by omega, by go_num, rfl, by omega, by omega, rfl, by omega, hNH.out.kp0 (Kp.refl _ _).drew, kB.trans ((Kp.refl (fun _ => False) _).drew.below.mono hBw)⟩
            case measure => simp [intOf]; omega
      · have ht : (c.tmod 3 == 0) = false := by rw [Int.tmod_eq_emod_of_nonneg hgb.1]; simpa using h3
        go_wp2_with fail
        have hlenc : cs.length = ks.length := by have := congrArg List.length hN.keys; simpa using this.symm
        have hBw := kB.size
        by_cases h8 : ks.length < 8
        · have d8 : decide ((ks.length : Int) < 8) = true := decide_eq_true (by omega)
          have hac := accept_ok hN hBw (by omega) ⟨hl0, by omega⟩
          have hacH := Lib.hid hac
          clear hac hN
          refine hacH.out.mono ?_
          rintro e w5 ⟨rfl, kb, cb, hN5, b5⟩
          have hN5 := Lib.hid hN5
          have hll := Int.le_refl (lst + 1)
          have hne : (lst + 1 != lst + 1) = false := by simp
          go_wp2_with fail
          go_roundw
          case rel => exact ⟨k + 1, lst + 1, _, _, by omega, by omega, by go_num, rfl, by omega, by omega, by simp, by simp; omega, hN5.out, kB.trans b5⟩
          case measure => simp [intOf]; omega
        · have d8 : decide ((ks.length : Int) < 8) = false := decide_eq_false (by omega)
          have hac := accept_full hN (by omega) ⟨hl0, by omega⟩
          have hacH := Lib.hid hac
          have hNH := Lib.hid hN
          clear hac hN
          refine hacH.out.mono ?_
          rintro e w5 ⟨rfl, rfl⟩
          go_wp2_with fail
          go_roundw
          case rel => exact ⟨k + 1, lst, _, _, by omega, by omega, by go_num, rfl, by omega, by omega, rfl, by omega, hNH.out.kp0 (Kp.refl _ _).drew, kB.trans ((Kp.refl (fun _ => False) _).drew.below.mono hBw)⟩
          case measure => simp [intOf]; omega
    · have hcase : (decide (k < l.length) = false) ∨ ((decide (k < l.length) = true) ∧ decide ((k : Int) < 60) = false) := by
        by_cases h : k < l.length
        · exact .inr ⟨by simpa using h, decide_eq_false (by omega)⟩
        · exact .inl (by simpa using h)
      have hBw := kB.size
      clear hlt hrow
      by_cases hin : 1 ≤ n ∧ n ≤ lst
      · obtain ⟨h1, h2⟩ := hin
        have d1 : decide (1 ≤ n) = true := decide_eq_true h1
        have d2 : decide (n ≤ lst) = true := decide_eq_true h2
        clear hN
        rcases hcase with hl | ⟨hl, hl2⟩
        all_goals
          go_wp2_with fail
          go_ret
          exact ⟨rfl, kB⟩
      · have hnot : n ∉ ks.map (·.1) := by
          rw [hN.keys]
          intro hm
          obtain ⟨p, hp, e⟩ := List.mem_map.1 hm
          have := hN.bds p hp
          have e : p.1 = n := e
          omega
        have hd : decide (1 ≤ n) = false ∨ (decide (1 ≤ n) = true ∧ decide (n ≤ lst) = false) := by
          by_cases h : 1 ≤ n
          · exact .inr ⟨decide_eq_true h, decide_eq_false (by omega)⟩
          · exact .inl (decide_eq_false h)
        clear hin
        rcases hcase with hl | ⟨hl, hl2⟩ <;> rcases hd with d1 | ⟨d1, d2⟩
        all_goals
          go_wp2_with fail
          have ka := (Kp.refl (fun _ => False) wr).alloc (.cells #[.int .u8 1] 5)
          have kBA := kB.trans (ka.below.mono hBw)
          have hNA := hN.kp0 ka
          have hI := Lib.hid (in_none n (.slice (some ⟨wr.heap.size, 0, none⟩) 1 1) hNA hnot)
          have hO := Lib.hid (out_none n 5 hNA hnot)
          have hC := Lib.hid (close_none n hNA hnot)
          have hW := Lib.hid (waits_none n hNA hnot)
          have kBH := Lib.hid kBA
          clear hN hNA kBA kB ka hBw hnot
          refine hI.out.mono ?_
          rintro e w5 ⟨rfl, rfl⟩
          clear hI
          go_wp2_with fail
          refine hO.out.mono ?_
          rintro e w5 ⟨rfl, rfl⟩
          clear hO
          go_wp2_with fail
          refine hC.out.mono ?_
          rintro e w5 ⟨rfl, rfl⟩
          clear hC
          go_wp2_with fail
          refine hW.out.mono ?_
          rintro e w5 ⟨rfl, rfl⟩
          clear hW
          go_wp2_with fail
          go_ret
          exact ⟨rfl, kBH.out⟩
end Go.Proofs.YtigdbooadelciaaGreat
