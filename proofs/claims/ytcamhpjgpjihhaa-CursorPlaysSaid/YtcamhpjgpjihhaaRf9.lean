/- The eldest cursor, of both. Plain lists. -/
import Derived.Test.YtcamhpjgpjihhaaRf7
import Derived.Test.YtcamhpjgpjihhaaRf8
namespace Go.Proofs.Ytcamhpjgpjihhaa
set_option linter.unusedVariables false
set_option linter.unusedSimpArgs false
open Go.RowKit

/-- The eldest of both. -/
theorem LR.eld {l : CurL} {rs : List RC} (h : LR l rs) (hr : (rs.map (·.n)).Pairwise (· < ·)) {n : Int} {b : Nat} {c : Cur} (he : IsEld l n b c) {a : Nat} (ha : EldTo rs rs.length a) : ∃ hl : a < rs.length, c = curOf rs[a] ∧ RAt rs n a rs[a] := by
  obtain ⟨hal, h1, h2, -⟩ := ha
  have hlen := h.len
  -- the pair of n in l
  obtain ⟨i, hi, hin⟩ := List.getElem_of_mem he.1
  have hk : ∀ j (hj : j < l.length) (hj' : j < rs.length), l[j].1 = rs[j].n ∧ l[j].2.2 = curOf rs[j] := by
    intro j hj hj'
    have := congrArg (fun x => x[j]?) h
    simp [hj, hj'] at this
    exact this
  have hii := hk i hi (by omega)
  rw [hin] at hii
  simp only at hii
  have haa := hk a (by omega) hal
  have e1 := he.2 _ (List.getElem_mem (show a < l.length by omega))
  rw [haa.1, haa.2, hii.2, hii.1] at e1
  have hu : ∀ r : RC, (curOf r).used = r.used := fun r => rfl
  rw [hu, hu] at e1
  have hi2 : i < rs.length := by omega
  have g1 := h1 i hi2 hi2
  have key : ∀ p q (hp : p < rs.length) (hq : q < rs.length), p < q → rs[p].n < rs[q].n := by
    intro p q hp hq hpq
    have := (List.pairwise_iff_getElem.1 hr) p q (by simpa using hp) (by simpa using hq) hpq
    simpa using this
  unfold eldB at e1
  simp at e1
  have hia : i = a := by
    rcases Nat.lt_trichotomy i a with hlt | e | hlt
    · have := h2 i hi2 hlt; omega
    · exact e
    · have := key a i hal hi2 hlt; omega
  subst hia
  refine ⟨hal, hii.2, ⟨hal, rfl, hii.1.symm, fun j hj hjl => ?_⟩⟩
  have := key j i hjl hal hj
  omega
end Go.Proofs.Ytcamhpjgpjihhaa
