/- A message that came in: what it holds, and the bounds of its caps. -/
import Derived.Test.YtgaaonbjfhklbaaApi
namespace Go.Proofs.Ytgaaonbjfhklbaa
set_option linter.unusedVariables false
set_option linter.unusedSimpArgs false
open Go.RowKit
theorem came_msg {w : World} {v : Value} (h : Came Try.prog w 37 v) : ∃ es x, v = .agg ⟨es⟩ ∧ MsgR w es x ∧ (0 ≤ x.caps ∧ x.caps ≤ 4294967295) := by
  obtain ⟨hc, _⟩ := h
  obtain ⟨x0, x1, x2, x3, x4, x5, x6, x7_0, x7_1, x7_2, x7_3, x7_4, x7_5, x8A, x8n, x8c, x9, x10A, x10n, x10c, x11, x12, x13_0A, x13_0n, x13_0c, x13_1A, x13_1n, x13_1c, x13_2A, x13_2n, x13_2c, x14, x15, x16A, x16n, x16c, x17, x18A, x18n, x18c, x19A, x19n, x19c, x20A, x20n, x20c, e,
    _, _, hw, _, _, _, _, _, _, _, _, _, h8, _, h10, _, _, h13, h14, h15, _, _, h16, _, h18, h19, h20⟩ := came37 hc
  obtain ⟨l8, _, h8⟩ := h8.changes
  obtain ⟨l10, _, h10, _⟩ := h10.ints Try.underlying21
  obtain ⟨l13, _, h13⟩ := h13.strs Try.underlying9
  obtain ⟨l14, _, h14⟩ := h14.strs Try.underlying9
  obtain ⟨l15, _, h15⟩ := h15.strs Try.underlying9
  obtain ⟨l16, _, h16, _⟩ := h16.ints Try.underlying5
  obtain ⟨l18, _, h18⟩ := h18.strs Try.underlying9
  obtain ⟨l19, _, h19⟩ := h19.items
  obtain ⟨l20, _, h20⟩ := h20.hits
  have hb := bounds_u32 hw
  refine ⟨_, ⟨x0, x1, x2, x3, x4, x5, x6, x7_0, x7_1, x7_2, x7_3, x7_4, x7_5, l8, x9, l10, x11, x12, l13, l14, l15, x14, x15, l16, x17, l18, l19, l20⟩, ?_, ⟨_, _, _, _, _, _, _, _, _, rfl, h8, h10, h13, h14, h15, h16, h18, h19, h20⟩, hb⟩
  rw [← e]
  cases v <;> simp [Value.cells] at e ⊢
end Go.Proofs.Ytgaaonbjfhklbaa
