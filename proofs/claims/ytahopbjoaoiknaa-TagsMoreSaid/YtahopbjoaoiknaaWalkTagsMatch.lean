/- TagsMatch: what a filter matches is the document's: the walk. -/
import Derived.Test.YtahopbjoaoiknaaTags7
import Derived.Test.YtahopbjoaoiknaaCameT
namespace Go.Proofs.Ytahopbjoaoiknaa
set_option linter.unusedVariables false
set_option linter.unusedSimpArgs false
open Go.RowKit
attribute [local go_sem ↓] load24
attribute [local go_sem] rowOf_new rowOf_drew isPtr0_ptr blkOf_ptr

theorem came_fil {w : World} {v : Value} (h : Came Try.prog w 24 v) : ∃ cs al an no, v = .agg (List.toArray cs) ∧ FilR w cs al an no := by
  obtain ⟨hc, _⟩ := h
  obtain ⟨x0A, x0n, x0c, x1A, x1n, x1c, x2A, x2n, x2c, e, h0, h1, h2⟩ := came24 hc
  obtain ⟨l0, e0, h0⟩ := h0.strs Try.underlying9
  obtain ⟨l1, e1, h1⟩ := h1.strs Try.underlying9
  obtain ⟨l2, e2, h2⟩ := h2.strs Try.underlying9
  refine ⟨_, l0, l1, l2, ?_, _, _, _, rfl, h0, h1, h2⟩
  rw [← e]
  cases v <;> simp [Value.cells] at e ⊢

theorem came_strs {w : World} {v : Value} (h : Came Try.prog w 22 v) : ∃ l, Strs w v l := by
  obtain ⟨A, len, cap, rfl, hs⟩ := Came.slIn Try.underlying22 (by kernel_rfl : Try.prog.cellsOf 9 = 1) (by decide) h
  obtain ⟨l, rfl, hs⟩ := hs.strs Try.underlying9
  exact ⟨l, hs⟩

end Go.Proofs.Ytahopbjoaoiknaa
