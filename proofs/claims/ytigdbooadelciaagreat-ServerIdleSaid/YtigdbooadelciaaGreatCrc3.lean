/- crc: the reference's sum, by hand; both contracts in the evaluator's form. -/
import Derived.Test.YtigdbooadelciaaGreatCrc2
namespace Go.Proofs.YtigdbooadelciaaGreat
set_option linter.unusedVariables false
set_option linter.unusedSimpArgs false
open Go.RowKit

def RefIn (m2 : Nat) (w : World) (c : Value) (j : Value) (wr : World) : Prop := ∃ n : Nat, n ≤ 8 ∧ j = .int .i64 n ∧ c = .int .u32 (crcIter n m2 : Nat) ∧ wr = w
def RefRel (w : World) (l : List Nat) (c0 : Nat) (c i : Value) (wr : World) : Prop := ∃ (k : Nat) (m : Nat), k ≤ l.length ∧ i = .int .i64 k ∧ c = .int .u32 m ∧ m < 4294967296 ∧ crcRun crcB (l.drop k) m = crcRun crcB l c0 ∧ Kp (fun _ => False) w wr
set_option maxRecDepth 100000 in
theorem rmore_calls (c : Nat) (A : Option Addr) (cap : Nat) (l : List Nat) (w : World) (hc : c < 4294967296) (hl : l.length ≤ 9223372036854775807) (hB : ∀ (k : Nat) (h : k < l.length), ∃ g off, A = some ⟨g, off, none⟩ ∧ l[k] < 256 ∧ w.cell? ⟨g, off + k, none⟩ = some (.int .u8 (l[k] : Int))) :
    Calls Tryz.prog 117 #[.int .u32 c, .slice A l.length cap] w fun e w' => e = .returned (.int .u32 (crcL crcB c l : Nat)) ∧ Kp (fun _ => False) w w' := by
  have hx : bits .xor .u32 (c : Int) 4294967295 = ((Nat.xor c 4294967295 : Nat) : Int) := xor_u32 c 4294967295 hc (by decide)
  have hc1 : Nat.xor c 4294967295 < 4294967296 := Nat.xor_lt_two_pow (n := 32) (by omega) (by decide)
  unfold crcL
  generalize Nat.xor c 4294967295 = c1 at *
  have kk := Kp.refl (fun _ => False) w
  go_enter Tryz.func117, Tryz.ntmps117
  go_wp2_with fail
  go_loopw [0, 5] (fun c i wr => RefRel w l c1 c i wr) (fun _ i _ => l.length - (intOf i).toNat)
  case atStart => exact ⟨0, c1, by omega, rfl, rfl, hc1, rfl, kk⟩
  case round =>
    clear kk hc1 hc hx
    obtain ⟨k, m, hk, rfl, rfl, hm, hrun, kk⟩ := hrel
    by_cases hlt : k < l.length
    · obtain ⟨g, off, rfl, h256, hcell⟩ := hB k hlt
      have hcell := kk.cell0 hcell
      rw [List.drop_eq_getElem_cons hlt, crcRun_cons] at hrun
      generalize l[k] = x at *
      clear hB
      have hx32 : bits .xor .u32 (m : Int) (x : Int) = ((Nat.xor m x : Nat) : Int) := xor_u32 _ _ hm (by omega)
      have hw : IntKind.u32.wrap (x : Int) = (x : Int) := by rw [IntKind.wrap_u32]; omega
      have hm2 : Nat.xor m x < 4294967296 := Nat.xor_lt_two_pow (n := 32) (by omega) (by omega)
      have hT : crcB m x = crcByte (Nat.xor m x) := rfl
      rw [hT] at hrun
      clear hT
      generalize Nat.xor m x = m2 at *
      go_wp2_with fail
      clear hx32 hw hm hcell
      go_loopw [0, 6] (fun c j w2 => RefIn m2 wr c j w2) (fun _ j _ => 8 - (intOf j).toNat)
      case atStart => exact ⟨0, by omega, rfl, rfl, rfl⟩
      case round =>
        obtain ⟨n, hn, rfl, rfl, rfl⟩ := hrel
        have hlt32 := crcIter_lt (c := m2) hm2 n
        have hrest : crcIter (n + 1) m2 = crcBit (crcIter n m2) := rfl
        by_cases h8 : n < 8
        · generalize crcIter n m2 = c at *
          have ha := and_one_u32 c hlt32
          rcases Nat.mod_two_eq_zero_or_one c with h2 | h2
          · rw [crcBit_even h2] at hrest
            rw [h2] at ha
            go_wp2_with fail
            refine ⟨⟨n + 1, by omega, by go_num, ?_, rfl⟩, by simp [intOf]; omega⟩
            rw [hrest, Int.natCast_ediv]
            rfl
          · rw [crcBit_odd h2] at hrest
            rw [h2] at ha
            have hx32 : bits .xor .u32 ((c : Int) / 2) 3988292384 = ((Nat.xor (c / 2) 3988292384 : Nat) : Int) := by
              rw [show (c : Int) / 2 = ((c / 2 : Nat) : Int) by omega]
              exact xor_u32 _ _ (by omega) (by decide)
            rw [← hrest] at hx32
            clear hrest
            go_wp2_with fail
            refine ⟨⟨n + 1, by omega, by go_num, rfl, rfl⟩, by simp [intOf]; omega⟩
        · have : n = 8 := by omega
          subst this
          rw [crcIter_8] at *
          clear hrest
          go_wp2_with fail
          exact ⟨⟨k + 1, _, by omega, by go_num, rfl, hlt32, hrun, kk⟩, by simp [intOf]; omega⟩
    · have : k = l.length := by omega
      subst this
      rw [List.drop_length] at hrun
      have hrunH := Lib.hid hrun
      clear hrun
      have hx : bits .xor .u32 (m : Int) 4294967295 = ((Nat.xor m 4294967295 : Nat) : Int) := xor_u32 m 4294967295 hm (by decide)
      obtain ⟨q, hq⟩ : ∃ q, Hid (q = Nat.xor m 4294967295) := ⟨_, Lib.hid rfl⟩
      rw [← hq.out] at hx
      go_wp2_with fail
      go_ret
      exact ⟨show Ending.returned (.int .u32 (q : Int)) = _ by rw [hq.out, show m = crcRun crcB l c1 from hrunH.out], kk⟩

theorem crc_ok : CrcOk Tryz.prog 96 165 := fun b d c A cap l w hc hb hl hB => more_calls b d c A cap l w hc hb hl hB
theorem ref_crc_ok : RefCrcOk Tryz.prog 117 := fun c A cap l w hc hl hB => rmore_calls c A cap l w hc hl hB
end Go.Proofs.YtigdbooadelciaaGreat
