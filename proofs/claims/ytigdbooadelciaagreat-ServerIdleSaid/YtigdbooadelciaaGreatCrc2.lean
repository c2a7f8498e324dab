/- crc: More, by hand; the contract that the evaluator uses. -/
import Derived.Test.YtigdbooadelciaaGreatCrc1
namespace Go.Proofs.YtigdbooadelciaaGreat
set_option linter.unusedVariables false
set_option linter.unusedSimpArgs false
open Go.RowKit

theorem crcTab_eq : crcTab = (List.range 256).map crcByte := by kernel_rfl
theorem tabV_get (i : Nat) (h : i < 256) : tabV[i]? = some (.int .u32 (crcByte i : Nat)) := by
  unfold tabV
  rw [crcTab_eq, List.getElem?_map, List.getElem?_map, List.getElem?_range h]
  rfl
theorem tabV_len : tabV.length = 256 := by
  unfold tabV
  rw [crcTab_eq]
  simp
theorem Part.done {cs : List Value} (h : Part (.int .u32 1) (.int .i32 0) (.int .u32 0) 1 256 cs) : cs = sumCells true := by
  apply List.ext_getElem?
  intro i
  unfold sumCells
  match i with
  | 0 => exact h.c0
  | 1 => exact h.c1
  | 2 => exact h.c2
  | 3 => exact h.c3
  | i + 4 =>
    simp only [List.getElem?_cons_succ]
    by_cases hi : i < 256
    · rw [tabV_get i hi, show i + 4 = 4 + i by omega]
      exact h.lo i hi
    · rw [List.getElem?_eq_none (by rw [h.len]; omega), List.getElem?_eq_none (by rw [tabV_len]; omega)]
theorem part_fresh (x0 x1 x2 : Value) : Part x0 x1 x2 0 0 (x0 :: x1 :: x2 :: .int .u32 0 :: List.replicate 256 (.int .u32 (.ofNat 0))) where
  len := by rw [List.length_cons, List.length_cons, List.length_cons, List.length_cons, List.length_replicate]
  c0 := rfl
  c1 := rfl
  c2 := rfl
  c3 := rfl
  lo := fun i hi => absurd hi (by omega)
  hi := fun i _ hi => by
    rw [show 4 + i = i + 4 by omega]
    simp only [List.getElem?_cons_succ]
    rw [List.getElem?_replicate, if_pos hi]
theorem Part.first {x0 x1 x2 y0 y1 : Value} {made : Int} {k : Nat} {cs : List Value} (h : Part x0 x1 x2 made k cs) : Part y0 y1 x2 made k ((cs.set 0 y0).set 1 y1) where
  len := by simp [h.len]
  c0 := by rw [List.getElem?_set_ne (by omega), List.getElem?_set_self (by rw [h.len]; omega)]
  c1 := by rw [List.getElem?_set_self (by rw [List.length_set, h.len]; omega)]
  c2 := by rw [List.getElem?_set_ne (by omega), List.getElem?_set_ne (by omega)]; exact h.c2
  c3 := by rw [List.getElem?_set_ne (by omega), List.getElem?_set_ne (by omega)]; exact h.c3
  lo := fun i hi => by rw [List.getElem?_set_ne (by omega), List.getElem?_set_ne (by omega)]; exact h.lo i hi
  hi := fun i h1 h2 => by rw [List.getElem?_set_ne (by omega), List.getElem?_set_ne (by omega)]; exact h.hi i h1 h2

theorem sum_at (d : Bool) (j : Nat) : (⟨sumCells d⟩ : Array Value)[j]? = (sumCells d)[j]? := by simp
theorem sum_done0 : (sumCells true)[0]? = some (.int .u32 1) := by unfold sumCells; rfl
theorem sum_new0 : (sumCells false)[0]? = some (.int .u32 0) := by unfold sumCells; rfl
theorem sum_new1 : (sumCells false)[1]? = some (.int .i32 0) := by unfold sumCells; rfl
theorem sum_tab (i : Nat) (h : i < 256) : (sumCells true)[4 + i]? = some (.int .u32 (crcByte i : Nat)) := by
  unfold sumCells
  rw [show 4 + i = i + 4 by omega]
  simp only [List.getElem?_cons_succ]
  exact tabV_get i h
theorem Blk.sum {w : World} {b : Nat} {d : Bool} {t : TypeId} (h : Blk w b ⟨sumCells d⟩ t) {j : Nat} {v : Value} (e : (sumCells d)[j]? = some v) : w.cell? ⟨b, j, none⟩ = some v := (h.cell j).trans ((sum_at d j).trans e)

theorem xor_u8 (a b : Nat) (ha : a < 256) (hb : b < 256) : bits .xor .u8 (a : Int) (b : Int) = ((Nat.xor a b : Nat) : Int) := by
  have hx : Nat.xor a b < 2 ^ 8 := Nat.xor_lt_two_pow (by omega) (by omega)
  simp only [bits, BitVec.ofInt_natCast, BitVec.toNat_xor, BitVec.toNat_ofNat, show IntKind.u8.bits = 8 from rfl, Nat.mod_eq_of_lt ha, Nat.mod_eq_of_lt hb]
  rw [IntKind.wrap_u8]
  show ((Nat.xor a b : Nat) : Int) % 256 = _
  omega
theorem crcByte_lt {c : Nat} (h : c < 4294967296) : crcByte c < 4294967296 := by
  rw [← crcIter_8]
  exact crcIter_lt h 8

/-- What stands after Do: the table. -/
def OnceQ (w : World) (b : Nat) (w1 : World) : Prop := ∃ cs, Blk w1 b ⟨cs⟩ 165 ∧ Part (.int .u32 0) (.int .i32 1) (.int .u32 0) 1 256 cs ∧ Kp (fun g => g = b) w w1
set_option maxRecDepth 100000 in
theorem once_calls (b : Nat) (d : Bool) (w : World) (hb : Blk w b ⟨sumCells d⟩ 165) :
    Calls Tryz.prog 138 #[.pointer (some ⟨b, 0, none⟩), .func (.func 139) #[.pointer (some ⟨b, 0, none⟩)] #[]] w fun e w' => e = .returned (.tuple #[]) ∧ Blk w' b ⟨sumCells true⟩ 165 ∧ Kp (fun g => g = b) w w' := by
  cases d with
  | true =>
    refine (once_done ⟨b, 0, none⟩ 1 (by decide) _ w (hb.sum sum_done0)).mono ?_
    rintro e w' ⟨rfl, rfl⟩
    exact ⟨rfl, hb, Kp.refl _ _⟩
  | false =>
    have hb1 := hb.set 1 (.int .i32 1)
    have hb1 : Blk (w.setCell ⟨b, 1, none⟩ (.int .i32 1)) b ⟨.int .u32 0 :: .int .i32 1 :: .int .u32 0 :: .int .u32 0 :: List.replicate 256 (.int .u32 (.ofNat 0))⟩ 165 := by
      refine cast (congrArg (fun a => Blk _ b a _) ?_) hb1
      rw [List.setIfInBounds_toArray]
      rfl
    refine (once_first b 0 w (OnceQ w b) (hb.sum sum_new0) (hb.sum sum_new1) (hb.frozen 0) (hb.frozen 1) ?_).mono ?_
    · refine (make_calls b _ _ _ _ _ hb1 (part_fresh _ _ _)).mono ?_
      rintro e w' ⟨rfl, cs, h1, h2, h3⟩
      refine ⟨rfl, ?_, ?_, h1.frozen 0, h1.frozen 1, cs, h1, h2, ((Kp.refl (fun g => g = b) w).set1 1 _).trans h3⟩
      · refine (h1.cell 0).trans ?_
        simpa using h2.c0
      · refine (h1.cell 1).trans ?_
        simpa using h2.c1
    · rintro e w' ⟨rfl, w1, ⟨cs, h1, h2, h3⟩, rfl⟩
      refine ⟨rfl, ?_, (h3.drew.set1 0 _).set1 1 _⟩
      have h4 := (h1.drew.set 0 (.int .u32 1)).set 1 (.int .i32 0)
      rw [List.setIfInBounds_toArray, List.setIfInBounds_toArray, (h2.first (y0 := .int .u32 1) (y1 := .int .i32 0)).done] at h4
      exact h4

def MoreRel (w : World) (b : Nat) (l : List Nat) (c0 : Nat) (c i : Value) (wr : World) : Prop := ∃ (k : Nat) (m : Nat), k ≤ l.length ∧ i = .int .i64 k ∧ c = .int .u32 m ∧ m < 4294967296 ∧ crcRun crcT (l.drop k) m = crcRun crcT l c0 ∧ Blk wr b ⟨sumCells true⟩ 165 ∧ Kp (fun g => g = b) w wr
set_option maxRecDepth 100000 in
theorem more_calls (b : Nat) (d : Bool) (c : Nat) (A : Option Addr) (cap : Nat) (l : List Nat) (w : World) (hc : c < 4294967296) (hb : Blk w b ⟨sumCells d⟩ 165) (hl : l.length ≤ 9223372036854775807) (hB : BytesAt w b A l) :
    Calls Tryz.prog 96 #[.pointer (some ⟨b, 0, none⟩), .int .u32 c, .slice A l.length cap] w fun e w' => e = .returned (.int .u32 (crcL crcT c l : Nat)) ∧ Blk w' b ⟨sumCells true⟩ 165 ∧ Kp (fun g => g = b) w w' := by
  have ho := once_calls b d w hb
  have hx : bits .xor .u32 IntKind.u32.max (c : Int) = ((Nat.xor c 4294967295 : Nat) : Int) := by
    have := xor_u32 4294967295 c (by decide) hc
    rw [show Nat.xor 4294967295 c = Nat.xor c 4294967295 from Nat.xor_comm _ _] at this
    exact this
  have hc1 : Nat.xor c 4294967295 < 4294967296 := Nat.xor_lt_two_pow (n := 32) (by omega) (by decide)
  clear hb
  unfold crcL
  generalize Nat.xor c 4294967295 = c1 at *
  go_enter Tryz.func96, Tryz.ntmps96
  go_wp2_with (go_at_call 138; refine ho.mono ?_; rintro e w1 ⟨rfl, hb, kk⟩)
  clear hx
  go_loopw [1, 19] (fun c i wr => MoreRel w b l c1 c i wr) (fun _ i _ => l.length - (intOf i).toNat)
  case atStart => exact ⟨0, c1, by omega, rfl, rfl, hc1, rfl, hb, kk⟩
  case round =>
    clear kk hb hc1 hc
    obtain ⟨k, m, hk, rfl, rfl, hm, hrun, hb, kk⟩ := hrel
    by_cases hlt : k < l.length
    · obtain ⟨g, off, rfl, hne, h256, hcell⟩ := hB k hlt
      have hcell := kk.cell hcell hne
      rw [List.drop_eq_getElem_cons hlt, crcRun_cons] at hrun
      generalize l[k] = x at *
      clear hB
      have hj : Nat.xor (m % 256) x < 256 := Nat.xor_lt_two_pow (n := 8) (by omega) (by omega)
      have hx8 : bits .xor .u8 ((m : Int) % 256) (x : Int) = ((Nat.xor (m % 256) x : Nat) : Int) := by
        rw [show (m : Int) % 256 = ((m % 256 : Nat) : Int) by omega]
        exact xor_u8 _ _ (by omega) h256
      have hT : crcT m x = Nat.xor (crcByte (Nat.xor (m % 256) x)) (m / 256) := rfl
      rw [hT] at hrun
      clear hT
      generalize Nat.xor (m % 256) x = j at *
      have hbl := crcByte_lt (c := j) (by omega)
      have hc2 := hb.sum (sum_tab j hj)
      have hx32 : bits .xor .u32 ((crcByte j : Nat) : Int) ((m : Int) / 256) = ((Nat.xor (crcByte j) (m / 256) : Nat) : Int) := by
        rw [show (m : Int) / 256 = ((m / 256 : Nat) : Int) by omega]
        exact xor_u32 _ _ hbl (by omega)
      have hm2 : Nat.xor (crcByte j) (m / 256) < 4294967296 := Nat.xor_lt_two_pow (n := 32) hbl (by omega)
      generalize Nat.xor (crcByte j) (m / 256) = m2 at *
      generalize crcByte j = r at *
      go_wp2_with fail
      exact ⟨⟨k + 1, m2, by omega, by go_num, rfl, hm2, hrun, hb, kk⟩, by simp [intOf]; omega⟩
    · have : k = l.length := by omega
      subst this
      rw [List.drop_length] at hrun
      have hrun : m = crcRun crcT l c1 := hrun
      have hrunH := Lib.hid hrun
      clear hrun
      have hx : bits .xor .u32 IntKind.u32.max (m : Int) = ((Nat.xor m 4294967295 : Nat) : Int) := by
        have := xor_u32 4294967295 m (by decide) hm
        rw [show Nat.xor 4294967295 m = Nat.xor m 4294967295 from Nat.xor_comm _ _] at this
        exact this
      obtain ⟨q, hq⟩ : ∃ q, Hid (q = Nat.xor m 4294967295) := ⟨_, Lib.hid rfl⟩
      rw [← hq.out] at hx
      go_wp2_with fail
      go_ret
      exact ⟨show Ending.returned (.int .u32 (q : Int)) = _ by rw [hq.out, hrunH.out], hb, kk⟩
end Go.Proofs.YtigdbooadelciaaGreat
