/- Tags: the program's Check and Right, the reference's Fine. -/
import Derived.Test.YtahopbjoaoiknaaTags3
namespace Go.Proofs.Ytahopbjoaoiknaa
set_option linter.unusedVariables false
set_option linter.unusedSimpArgs false
open Go.RowKit

/-- Is x no greater than y? -/
def leB (x y : ByteArray) : Bool := Op.bytesLess x.toList y.toList || x.toList == y.toList
/-- Tags that rise, each of 16 bytes at most, from behind a text on. -/
def risL : ByteArray → List ByteArray → Bool
  | _, [] => true
  | last, t :: r => decide (t.size ≤ 16) && !leB t last && risL t r
def emp : ByteArray := ⟨#[]⟩
def okL (l : List ByteArray) : Bool := decide (l.length ≤ 8) && risL emp l
def checkN (l : List ByteArray) : Int := if okL l = true then 0 else 30

def ChkRel (w : World) (l : List ByteArray) (s i : Value) (wr : World) : Prop := ∃ (k : Nat) (x : ByteArray), k ≤ l.length ∧ i = .int .i64 k ∧ s = .string x ∧ risL emp l = risL x (l.drop k) ∧ w = wr

theorem prog_check (v : Value) (l : List ByteArray) (w : World) (h : Strs w v l) :
    Calls Try.prog 28 #[v] w fun e w' => e = .returned (.int .i64 (checkN l)) ∧ w = w' := by
  obtain ⟨A, cap, rfl, hlc, hcm, hrow⟩ := h.one
  clear hlc hcm h
  obtain ⟨q, hq⟩ : ∃ q, Hid (checkN l = q) := ⟨_, rfl⟩
  rw [hq.out]
  by_cases h8 : 8 < l.length
  · have hq2 : q = 30 := by
      rw [← hq.out]
      unfold checkN okL
      rw [if_neg]
      simp
      omega
    subst hq2
    clear hrow
    go_enter Try.func28, Try.ntmps28
    go_wp2_with fail
    go_ret
    exact ⟨rfl, rfl⟩
  · have hd8 : decide ((8 : Int) < (l.length : Int)) = false := by simp; omega
    go_enter Try.func28, Try.ntmps28
    go_wp2_with fail
    go_loopw [3, 11] (fun s i wr => ChkRel w l s i wr) (fun _ i _ => l.length - (intOf i).toNat)
    case atStart => exact ⟨0, emp, by omega, rfl, rfl, by simp, rfl⟩
    case round =>
      clear hd8
      obtain ⟨k, s, hk, rfl, rfl, hris, rfl⟩ := hrel
      have hris := Lib.hid hris
      by_cases hlt : k < l.length
      · obtain ⟨b, off, rfl, hc⟩ := hrow k hlt
        clear hrow
        have hdrop : Hid (l.drop k = l[k] :: l.drop (k + 1)) := by
          unfold Hid
          exact List.drop_eq_getElem_cons hlt
        generalize hx : l[k] = x at *
        have hx := Lib.hid hx
        by_cases hsz : 16 < x.size
        · have hq2 : q = 30 := by
            rw [← hq.out]
            unfold checkN okL
            rw [hris.out, hdrop.out, if_neg]
            simp [risL]
            intros
            omega
          subst hq2
          go_wp2_with fail
          go_ret
          exact ⟨rfl, rfl⟩
        · obtain ⟨z, hz⟩ : ∃ z, (Op.bytesLess x.toList s.toList || x.toList == s.toList) = z := ⟨_, rfl⟩
          have hd16 : decide ((16 : Int) < (x.size : Int)) = false := by simp; omega
          have hle : Hid (leB x s = z) := hz
          cases z
          · go_wp2_with fail
            refine ⟨⟨k + 1, x, by omega, by go_num, rfl, ?_, rfl⟩, by simp [intOf]; omega⟩
            rw [hris.out, hdrop.out]
            simp [risL, hle.out]
            omega
          · have hq2 : q = 30 := by
              rw [← hq.out]
              unfold checkN okL
              rw [hris.out, hdrop.out, if_neg]
              simp [risL, hle.out]
            subst hq2
            go_wp2_with fail
            go_ret
            exact ⟨rfl, rfl⟩
      · have hq2 : q = 0 := by
          rw [← hq.out]
          unfold checkN okL
          rw [hris.out, List.drop_of_length_le (by omega), if_pos]
          simp [risL]
          omega
        subst hq2
        clear hrow
        go_wp2_with fail
        go_ret
        exact ⟨rfl, rfl⟩

def rightN (al an no : List ByteArray) : Int := if (okL al && okL an && okL no) = true then 0 else 30

end Go.Proofs.Ytahopbjoaoiknaa
