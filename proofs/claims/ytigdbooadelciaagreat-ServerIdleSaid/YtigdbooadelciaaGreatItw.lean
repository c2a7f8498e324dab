/- A range over a map: what walks keep. Nothing of the program stands here. -/
import Derived.Test.YtigdbooadelciaaGreatIt
import Derived.RangeFuncBox
import Derived.RangeFuncLeaves
import Derived.Shelf.Abstract
import Derived.WalkKit
import Derived.OwnWalkIn
import Derived.TacticsInMore
namespace Go.Proofs.YtigdbooadelciaaGreat
set_option linter.unusedVariables false
set_option linter.unusedSimpArgs false
open Go.RowKit Go.Shelf
theorem IterAt.walks {κ : Type} {kv : κ → Value} {w w' : World} {b r : Nat} {m left : List (κ × Value)} (h : IterAt w b r kv m left) (k : KeepsWalks w w') : IterAt w' b r kv m left := by
  have h' := h
  obtain ⟨es, clock, since, seen, c0, L, h0, h1, h2, h3, h4, h5, h6, h7, h8⟩ := h
  exact h'.of_blocks ((k.same b _ h0 rfl).trans h0.symm) ((k.same r _ h7 rfl).trans h7.symm)
theorem IterAt.isWalk {κ : Type} {kv : κ → Value} {w : World} {b r : Nat} {m left : List (κ × Value)} (h : IterAt w b r kv m left) : ∃ o : Obj, w.heap[r]? = some o ∧ o.isWalk = true := by
  obtain ⟨es, clock, since, seen, c0, L, h0, h1, h2, h3, h4, h5, h6, h7, h8⟩ := h
  exact ⟨_, h7, rfl⟩
theorem Kp.grownBy {w w' : World} {r : Nat} (k : Kp (fun i => i = r) w w') : w.grownBy w' (some r) := ⟨k.os, k.tape, k.output, k.size, fun i hi hne => k.block i hi (fun e => hne (by rw [e]))⟩
end Go.Proofs.YtigdbooadelciaaGreat
