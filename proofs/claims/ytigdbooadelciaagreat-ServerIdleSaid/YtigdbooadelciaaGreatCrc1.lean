/- crc: the table, by hand. -/
import Derived.Test.YtigdbooadelciaaGreatChecked
import Derived.Test.YtigdbooadelciaaGreatEvC
import Derived.Laws.BitsLemmas
import Derived.Deep.RegionHeld3
import Derived.Deep.QuietTactic
import Derived.BigQuiet
import Derived.Lib.Hide
import Derived.Deep.LoopGhost
import Derived.Test.YtigdbooadelciaaGreatOnce
namespace Go.Proofs.YtigdbooadelciaaGreat
set_option linter.unusedVariables false
set_option linter.unusedSimpArgs false
open Go.RowKit

theorem xor_u32 (a b : Nat) (ha : a < 4294967296) (hb : b < 4294967296) : bits .xor .u32 (a : Int) (b : Int) = ((Nat.xor a b : Nat) : Int) := by
  have hx : Nat.xor a b < 2 ^ 32 := Nat.xor_lt_two_pow (by omega) (by omega)
  simp only [bits, BitVec.ofInt_natCast, BitVec.toNat_xor, BitVec.toNat_ofNat, show IntKind.u32.bits = 32 from rfl, Nat.mod_eq_of_lt ha, Nat.mod_eq_of_lt hb]
  rw [IntKind.wrap_u32]
  show ((Nat.xor a b : Nat) : Int) % 4294967296 = _
  omega
theorem and_one_u32 (a : Nat) (ha : a < 4294967296) : bits .and .u32 (a : Int) 1 = ((a % 2 : Nat) : Int) := by
  have := (bits_nat .u32 32 (by decide) (fun n h0 h1 => by rw [IntKind.wrap_u32]; omega) a 1 (by omega) (by decide)).1
  rw [Nat.and_one_is_mod] at this
  exact this
theorem crcBit_lt {c : Nat} (h : c < 4294967296) : crcBit c < 4294967296 := by
  unfold crcBit
  split
  · exact Nat.xor_lt_two_pow (n := 32) (by omega) (by decide)
  · omega
theorem crcBit_odd {c : Nat} (h : c % 2 = 1) : crcBit c = Nat.xor (c / 2) 3988292384 := by
  unfold crcBit
  rw [h]
theorem crcBit_even {c : Nat} (h : c % 2 = 0) : crcBit c = c / 2 := by
  unfold crcBit
  rw [h]

def crcIter : Nat → Nat → Nat
  | 0, c => c
  | j + 1, c => crcBit (crcIter j c)
theorem crcIter_lt {c : Nat} (h : c < 4294967296) : ∀ j, crcIter j c < 4294967296
  | 0 => h
  | j + 1 => crcBit_lt (crcIter_lt h j)
theorem crcIter_8 (c : Nat) : crcIter 8 c = crcByte c := rfl

structure Part (x0 x1 x2 : Value) (made : Int) (k : Nat) (cs : List Value) : Prop where
  len : cs.length = 260
  c0 : cs[0]? = some x0
  c1 : cs[1]? = some x1
  c2 : cs[2]? = some x2
  c3 : cs[3]? = some (.int .u32 made)
  lo : ∀ i, i < k → cs[4 + i]? = some (.int .u32 (crcByte i : Nat))
  hi : ∀ i, k ≤ i → i < 256 → cs[4 + i]? = some (.int .u32 (.ofNat 0))
theorem Part.step {x0 x1 x2 : Value} {made : Int} {k : Nat} {cs : List Value} (h : Part x0 x1 x2 made k cs) (hk : k < 256) : Part x0 x1 x2 made (k + 1) (cs.set (4 + k) (.int .u32 (crcByte k : Nat))) where
  len := by simp [h.len]
  c0 := by rw [List.getElem?_set_ne (by omega)]; exact h.c0
  c1 := by rw [List.getElem?_set_ne (by omega)]; exact h.c1
  c2 := by rw [List.getElem?_set_ne (by omega)]; exact h.c2
  c3 := by rw [List.getElem?_set_ne (by omega)]; exact h.c3
  lo := fun i hi => by
    by_cases e : i = k
    · subst e
      rw [List.getElem?_set_self (by rw [h.len]; omega)]
    · rw [List.getElem?_set_ne (by omega)]
      exact h.lo i (by omega)
  hi := fun i h1 h2 => by
    rw [List.getElem?_set_ne (by omega)]
    exact h.hi i (by omega) h2
theorem Part.made {x0 x1 x2 : Value} {made made' : Int} {k : Nat} {cs : List Value} (h : Part x0 x1 x2 made k cs) : Part x0 x1 x2 made' k (cs.set 3 (.int .u32 made')) where
  len := by simp [h.len]
  c0 := by rw [List.getElem?_set_ne (by omega)]; exact h.c0
  c1 := by rw [List.getElem?_set_ne (by omega)]; exact h.c1
  c2 := by rw [List.getElem?_set_ne (by omega)]; exact h.c2
  c3 := by rw [List.getElem?_set_self (by rw [h.len]; omega)]
  lo := fun i hi => by rw [List.getElem?_set_ne (by omega)]; exact h.lo i hi
  hi := fun i h1 h2 => by rw [List.getElem?_set_ne (by omega)]; exact h.hi i h1 h2

set_option maxRecDepth 100000 in
theorem store_calls (a : Addr) (x : Value) (w : World) (hc : w.cell? a = some x) (hz : w.frozen? a = false) :
    Calls Tryz.prog 202 #[.pointer (some a), .bool true] w fun e w' => e = .returned (.tuple #[]) ∧ w' = w.drew.setCell a (.int .u32 1) := by
  have hc' : w.drew.cell? a = some x := by go_simp
  have hz' : w.drew.frozen? a = false := by go_simp
  have hst := run_call_store (P := Tryz.prog) Tryz.func265 (by kernel_rfl) (by kernel_rfl) (by kernel_rfl) (by kernel_rfl) (k := .u32) (y := 1) hc' hz'
  go_enter Tryz.func202, Tryz.ntmps202
  go_wp2
  go_region_calls
  all_goals (go_end0; exact ⟨rfl, rfl⟩)

def MakeRel (w : World) (b : Nat) (x0 x1 x2 : Value) (i : Value) (wr : World) : Prop := ∃ (k : Nat) (cs : List Value), k ≤ 256 ∧ i = .int .i64 k ∧ Blk wr b ⟨cs⟩ 165 ∧ Part x0 x1 x2 0 k cs ∧ Kp (fun g => g = b) w wr
def MakeIn (k : Nat) (w : World) (c : Value) (j : Value) (wr : World) : Prop := ∃ n : Nat, n ≤ 8 ∧ j = .int .i64 n ∧ c = .int .u32 (crcIter n k : Nat) ∧ wr = w
def MakePost (w : World) (b : Nat) (x0 x1 x2 : Value) (e : Ending) (w' : World) : Prop := e = .returned (.tuple #[]) ∧ ∃ cs, Blk w' b ⟨cs⟩ 165 ∧ Part x0 x1 x2 1 256 cs ∧ Kp (fun g => g = b) w w'
set_option maxRecDepth 100000 in
theorem make_calls (b : Nat) (x0 x1 x2 : Value) (cs : List Value) (w : World) (hb : Blk w b ⟨cs⟩ 165) (hp : Part x0 x1 x2 0 0 cs) :
    Calls Tryz.prog 139 #[.pointer (some ⟨b, 0, none⟩)] w (MakePost w b x0 x1 x2) := by
  have kk := Kp.refl (fun g => g = b) w
  go_enter Tryz.func139, Tryz.ntmps139
  go_wp2_with fail
  go_loopw [4] (fun i wr => MakeRel w b x0 x1 x2 i wr) (fun i _ => 256 - (intOf i).toNat)
  case atStart => exact ⟨0, cs, by omega, rfl, hb, hp, kk⟩
  case round =>
    clear kk hb hp
    obtain ⟨k, cs, hk, rfl, hb, hp, kk⟩ := hrel
    by_cases hlt : k < 256
    · have e : IntKind.u32.wrap (k : Int) = (k : Int) := by rw [IntKind.wrap_u32]; omega
      have hc := hb.cell (4 + k)
      have hz : (⟨cs⟩ : Array Value)[4 + k]? = some (.int .u32 (.ofNat 0)) := by simpa using hp.hi k (Nat.le_refl _) hlt
      rw [hz] at hc
      have hf := hb.frozen (4 + k)
      have hset := hb.set (4 + k) (.int .u32 (crcByte k : Nat))
      have hset : Blk (wr.setCell ⟨b, 4 + k, none⟩ (.int .u32 (crcByte k : Nat))) b ⟨cs.set (4 + k) (.int .u32 (crcByte k : Nat))⟩ 165 := by
        rw [show (⟨cs⟩ : Array Value).setIfInBounds (4 + k) (.int .u32 (crcByte k : Nat)) = ⟨cs.set (4 + k) (.int .u32 (crcByte k : Nat))⟩ from by simp] at hset
        exact hset
      have hps := hp.step hlt
      have kk2 := kk.set1 (4 + k) (.int .u32 (crcByte k : Nat))
      clear hb hz hp kk
      go_wp2_with fail
      go_loopw [3, 9] (fun c j w2 => MakeIn k wr c j w2) (fun _ j _ => 8 - (intOf j).toNat)
      case atStart => exact ⟨0, by omega, rfl, rfl, rfl⟩
      case round =>
        obtain ⟨n, hn, rfl, rfl, rfl⟩ := hrel
        have hlt32 := crcIter_lt (c := k) (by omega) n
        have hrest : crcIter (n + 1) k = crcBit (crcIter n k) := rfl
        by_cases h8 : n < 8
        · generalize crcIter n k = c at *
          have ha := and_one_u32 c hlt32
          rcases Nat.mod_two_eq_zero_or_one c with h2 | h2
          · rw [crcBit_even h2] at hrest
            go_wp2_with fail
            refine ⟨⟨n + 1, by omega, by go_num, ?_, rfl⟩, by simp [intOf]; omega⟩
            rw [hrest, Int.natCast_ediv]
            rfl
          · rw [crcBit_odd h2] at hrest
            go_wp2_with fail
            refine ⟨⟨n + 1, by omega, by go_num, ?_, rfl⟩, by simp [intOf]; omega⟩
            rw [hrest, ← xor_u32 _ _ (by omega) (by omega), Int.natCast_ediv]
            rfl
        · have : n = 8 := by omega
          subst this
          rw [crcIter_8] at *
          go_wp2_with fail
          exact ⟨⟨k + 1, _, by omega, by go_num, hset, hps, kk2⟩, by simp [intOf]; omega⟩
    · have : k = 256 := by omega
      subst this
      have c3 := hb.cell 3
      have h3 : (⟨cs⟩ : Array Value)[3]? = some (.int .u32 0) := by simpa using hp.c3
      rw [h3] at c3
      have f3 := hb.frozen 3
      have hset := hb.drew.set 3 (.int .u32 1)
      rw [show (⟨cs⟩ : Array Value).setIfInBounds 3 (.int .u32 1) = ⟨cs.set 3 (.int .u32 1)⟩ from by simp] at hset
      have hfin : Hid (MakePost w b x0 x1 x2 (.returned (.tuple #[])) (wr.drew.setCell ⟨b, 3, none⟩ (.int .u32 1))) := ⟨rfl, _, hset, hp.made, kk.drew.set1 3 _⟩
      clear hb h3 hset hp kk
      go_wp2_with (go_at_call 202; refine (store_calls _ _ _ c3 f3).mono ?_; rintro e w' ⟨rfl, rfl⟩)
      go_end0
      exact hfin.out
end Go.Proofs.YtigdbooadelciaaGreat
