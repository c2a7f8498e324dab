/- An evaluator over named blocks: a region within a walk: frames to and fro. Nothing of the program stands here. -/
import Derived.Test.YtahopbjoaoiknaaEvT
namespace Go.Proofs.Ytahopbjoaoiknaa
set_option linter.unusedVariables false
set_option linter.unusedSimpArgs false
open Go.RowKit

theorem ActR.ofL {R : Ren} {nt : Nat} {args avs : List Value} (h : VRs R args avs) (hl : args.length = nt) : ActR R nt (ofL args 0 .nil) { tmps := ⟨avs⟩, defers := [] } := by
  have hlen := h.length
  have := ActR.enter (nt := nt) h (by omega)
  rw [show nt - (⟨avs⟩ : Array Value).size = 0 by simp; omega] at this
  simpa using this
theorem act_list {a : Act} {n : Nat} (hs : a.tmps.size = n) (hd : a.defers = []) : a = { tmps := ⟨(List.range n).map fun i => a.tmps.getD i undef⟩, defers := [] } := by
  obtain ⟨tmps, defers⟩ := a
  simp only at hs hd
  subst hd
  congr 1
  apply Array.ext
  · simp [hs]
  · intro i h1 h2
    simp only [List.getElem_toArray, List.getElem_map, List.getElem_range]
    simp [Array.getD, h1]
end Go.Proofs.Ytahopbjoaoiknaa
