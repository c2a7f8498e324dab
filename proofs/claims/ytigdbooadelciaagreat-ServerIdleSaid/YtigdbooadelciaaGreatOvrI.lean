/- ServerIdle: the calls that are known beforehand. -/
import Derived.Test.YtigdbooadelciaaGreatOvr
import Derived.Test.YtigdbooadelciaaGreatExt
import Derived.Test.YtigdbooadelciaaGreatEvS
import Derived.Test.YtigdbooadelciaaGreatSrbQ
import Derived.Test.YtigdbooadelciaaGreatSrbL
import Derived.Test.YtigdbooadelciaaGreatSrbU
namespace Go.Proofs.YtigdbooadelciaaGreat
set_option linter.unusedVariables false
set_option linter.unusedSimpArgs false
open Go.RowKit
def idleO : CallF := fun f args s =>
  match Nat.beq f 27 with
  | true => evSorted .i64 3 46 args s
  | false => match Nat.beq f 50 with
    | true => evSorted .u64 40 84 args s
    | false => match Nat.beq f 133 with
      | true => evSorted .u32 26 190 args s
      | false => crcO f args s
theorem idleO_ok (G : Gd) : ∀ f args s v s', idleO f args s = some (v, s') → CallS Tryz.prog G f args s v s' := by
  intro f args s v s' h
  unfold idleO at h
  split at h
  · rename_i hf
    have hf := Nat.eq_of_beq_eq_true hf
    subst hf
    obtain ⟨i, hi, h0, h1, h2⟩ := info_parts infoKQ
    exact evSorted_ok hi h1 (fun Bm b m hl w h1 h2 h3 zs h4 h5 => (prog_sortedQ Bm b m hl w h1 h2 h3 zs h4 h5).mono (by
      rintro e w' ⟨v, q1, q2, q3, q4⟩
      exact ⟨v, q1, q2, q3, q4⟩)) h
  · split at h
    · rename_i hf
      have hf := Nat.eq_of_beq_eq_true hf
      subst hf
      obtain ⟨i, hi, h0, h1, h2⟩ := info_parts infoKL
      exact evSorted_ok hi h1 (fun Bm b m hl w h1 h2 h3 zs h4 h5 => (prog_sortedL Bm b m hl w h1 h2 h3 zs h4 h5).mono (by
        rintro e w' ⟨v, q1, q2, q3, q4⟩
        exact ⟨v, q1, q2, q3, q4⟩)) h
    · split at h
      · rename_i hf
        have hf := Nat.eq_of_beq_eq_true hf
        subst hf
        obtain ⟨i, hi, h0, h1, h2⟩ := info_parts infoKU
        exact evSorted_ok hi h1 (fun Bm b m hl w h1 h2 h3 zs h4 h5 => (prog_sortedU Bm b m hl w h1 h2 h3 zs h4 h5).mono (by
          rintro e w' ⟨v, q1, q2, q3, q4⟩
          exact ⟨v, q1, q2, q3, q4⟩)) h
      · exact crcO_ok G f args s v s' h
end Go.Proofs.YtigdbooadelciaaGreat
