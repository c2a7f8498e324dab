/- The calls that are known beforehand. -/
import Derived.Test.YtigdbooadelciaaGreatCrc3
namespace Go.Proofs.YtigdbooadelciaaGreat
set_option linter.unusedVariables false
set_option linter.unusedSimpArgs false
open Go.RowKit
def crcO : CallF := fun f args s =>
  match Nat.beq f 96 with
  | true => evCrc 165 args s
  | false => match Nat.beq f 117 with
    | true => evRefCrc args s
    | false => none
theorem crcO_ok (G : Gd) : ∀ f args s v s', crcO f args s = some (v, s') → CallS Tryz.prog G f args s v s' := by
  intro f args s v s' h
  unfold crcO at h
  split at h
  · rename_i hf
    have hf := Nat.eq_of_beq_eq_true hf
    subst hf
    exact evCrc_ok crc_ok h
  · split at h
    · rename_i hf
      have hf := Nat.eq_of_beq_eq_true hf
      subst hf
      exact evRefCrc_ok ref_crc_ok h
    · cases h
end Go.Proofs.YtigdbooadelciaaGreat
