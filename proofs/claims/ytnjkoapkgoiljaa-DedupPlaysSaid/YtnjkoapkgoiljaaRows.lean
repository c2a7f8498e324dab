/-
  No cell of these rows narrows 'for every input' (looked for: loops, veiled, ifaces, maps, wideKeys, modest, calm, conditions, laid).
  DERIVED. THE GIVEN ROWS OF THIS SEAT. 10 by the template 'for every input the law returns true; each argument reads behind the call as it read before'; 0 by the template 'total and deterministic' (their statements: YtnjkoapkgoiljaaTotals.lean).
  GIVEN WITH THE SEED: the statements are not yours to turn. If you find one false, say at which input.
  Laid BY PROGRAM, IN A SANDBOX (cutbox-rows.mjs): the forced cells as the released guide's own fill.sh prints them over the translation 98e9e27d267447d8… (all of the seat's roots in one cut). By AI agents, Wed Nov 11 2026. No macro, syntax, notation, axiom, sorry.
-/
import Derived.Test.YtnjkoapkgoiljaaChecked
import GoSem.Claim
import GoSem.ClaimJoined
import GoSem.ClaimMapViews
import Derived.JoinedTies
import Derived.KernelRfl
namespace Go.Proofs.Ytnjkoapkgoiljaa
/- THE CELL 'sum', in the pinned program and in every row, IS THE sha256 OF THE DUMP (.gsa) THAT YtnjkoapkgoiljaaProg.lean LOADS. Nothing in Lean hashes anything: it is a label: what it is worth is what the hold of that sum in a sandbox is worth. -/
noncomputable def Try.pinned : Pinned := { name := "ytnjkoapkgoiljaa", sum := "98e9e27d267447d8d0287062df4f805d55912e49ac54b5bdc11eb4987278727b", checked := Try.checked }
namespace Rows
def none {H : Type} : Left H := { results := [], args := [] }

/-- 'lodestarlaw20.RetryPlays': WHATEVER THE INPUT: true; the input reads as it did. -/
def retryPlaysSpec : ChangeSpec := { name := "retryPlays", fn := fun _ => fun
  | [d1, d2] => { results := [.lit (.bool true)], args := [d1, d2] }
  | _ => none }
def retryPlaysRow : OpenClaim := { program := "ytnjkoapkgoiljaa", sum := "98e9e27d267447d8d0287062df4f805d55912e49ac54b5bdc11eb4987278727b", func := "lodestar/lodestarlaw20.RetryPlays", spec := "retryPlays", inPlace := ["sync/atomic.LoadInt32", "sync/atomic.StoreInt32"], apart := false }
def RetryPlaysSaid : Prop := retryPlaysRow.holds Try.pinned (OpenSpec.ofChange retryPlaysSpec)

/-- ITS FALSE NEIGHBOUR: 'it returns false'. Refute it at one input. -/
def retryPlaysWrong : ChangeSpec := { name := "retryPlays", fn := fun _ => fun
  | [d1, d2] => { results := [.lit (.bool false)], args := [d1, d2] }
  | _ => none }
def RetryPlaysWrongFalsely : Prop := retryPlaysRow.holds Try.pinned (OpenSpec.ofChange retryPlaysWrong)

/-- 'lodestarlaw20.RetryBound': WHATEVER THE INPUT: true; the input reads as it did. -/
def retryBoundSpec : ChangeSpec := { name := "retryBound", fn := fun _ => fun
  | [d1, d2] => { results := [.lit (.bool true)], args := [d1, d2] }
  | _ => none }
def retryBoundRow : OpenClaim := { program := "ytnjkoapkgoiljaa", sum := "98e9e27d267447d8d0287062df4f805d55912e49ac54b5bdc11eb4987278727b", func := "lodestar/lodestarlaw20.RetryBound", spec := "retryBound", inPlace := ["sync/atomic.LoadInt32", "sync/atomic.StoreInt32"], apart := false }
def RetryBoundSaid : Prop := retryBoundRow.holds Try.pinned (OpenSpec.ofChange retryBoundSpec)

/-- ITS FALSE NEIGHBOUR: 'it returns false'. Refute it at one input. -/
def retryBoundWrong : ChangeSpec := { name := "retryBound", fn := fun _ => fun
  | [d1, d2] => { results := [.lit (.bool false)], args := [d1, d2] }
  | _ => none }
def RetryBoundWrongFalsely : Prop := retryBoundRow.holds Try.pinned (OpenSpec.ofChange retryBoundWrong)

/-- 'lodestarlaw20.RetryGood': WHATEVER THE INPUT: true; the input reads as it did. -/
def retryGoodSpec : ChangeSpec := { name := "retryGood", fn := fun _ => fun
  | [d1, d2, d3] => { results := [.lit (.bool true)], args := [d1, d2, d3] }
  | _ => none }
def retryGoodRow : OpenClaim := { program := "ytnjkoapkgoiljaa", sum := "98e9e27d267447d8d0287062df4f805d55912e49ac54b5bdc11eb4987278727b", func := "lodestar/lodestarlaw20.RetryGood", spec := "retryGood", inPlace := ["sync/atomic.LoadInt32", "sync/atomic.StoreInt32"], apart := false }
def RetryGoodSaid : Prop := retryGoodRow.holds Try.pinned (OpenSpec.ofChange retryGoodSpec)

/-- ITS FALSE NEIGHBOUR: 'it returns false'. Refute it at one input. -/
def retryGoodWrong : ChangeSpec := { name := "retryGood", fn := fun _ => fun
  | [d1, d2, d3] => { results := [.lit (.bool false)], args := [d1, d2, d3] }
  | _ => none }
def RetryGoodWrongFalsely : Prop := retryGoodRow.holds Try.pinned (OpenSpec.ofChange retryGoodWrong)

/-- 'lodestarlaw17.CreditPairs': WHATEVER THE INPUT: true; the input reads as it did. -/
def creditPairsSpec : ChangeSpec := { name := "creditPairs", fn := fun _ => fun
  | [d1, d2, d3] => { results := [.lit (.bool true)], args := [d1, d2, d3] }
  | _ => none }
def creditPairsRow : OpenClaim := { program := "ytnjkoapkgoiljaa", sum := "98e9e27d267447d8d0287062df4f805d55912e49ac54b5bdc11eb4987278727b", func := "lodestar/lodestarlaw17.CreditPairs", spec := "creditPairs", inPlace := ["sync/atomic.StoreUint32", "sync/atomic.LoadUint32", "sync/atomic.CompareAndSwapUint32"], apart := false }
def CreditPairsSaid : Prop := creditPairsRow.holds Try.pinned (OpenSpec.ofChange creditPairsSpec)

/-- ITS FALSE NEIGHBOUR: 'it returns false'. Refute it at one input. -/
def creditPairsWrong : ChangeSpec := { name := "creditPairs", fn := fun _ => fun
  | [d1, d2, d3] => { results := [.lit (.bool false)], args := [d1, d2, d3] }
  | _ => none }
def CreditPairsWrongFalsely : Prop := creditPairsRow.holds Try.pinned (OpenSpec.ofChange creditPairsWrong)

/-- 'lodestarlaw17.CreditUnder': WHATEVER THE INPUT: true; the input reads as it did. -/
def creditUnderSpec : ChangeSpec := { name := "creditUnder", fn := fun _ => fun
  | [d1, d2] => { results := [.lit (.bool true)], args := [d1, d2] }
  | _ => none }
def creditUnderRow : OpenClaim := { program := "ytnjkoapkgoiljaa", sum := "98e9e27d267447d8d0287062df4f805d55912e49ac54b5bdc11eb4987278727b", func := "lodestar/lodestarlaw17.CreditUnder", spec := "creditUnder", inPlace := ["sync/atomic.StoreUint32", "sync/atomic.LoadUint32", "sync/atomic.CompareAndSwapUint32"], apart := false }
def CreditUnderSaid : Prop := creditUnderRow.holds Try.pinned (OpenSpec.ofChange creditUnderSpec)

/-- ITS FALSE NEIGHBOUR: 'it returns false'. Refute it at one input. -/
def creditUnderWrong : ChangeSpec := { name := "creditUnder", fn := fun _ => fun
  | [d1, d2] => { results := [.lit (.bool false)], args := [d1, d2] }
  | _ => none }
def CreditUnderWrongFalsely : Prop := creditUnderRow.holds Try.pinned (OpenSpec.ofChange creditUnderWrong)

/-- 'lodestarlaw17.CreditFrees': WHATEVER THE INPUT: true; the input reads as it did. -/
def creditFreesSpec : ChangeSpec := { name := "creditFrees", fn := fun _ => fun
  | [d1, d2, d3] => { results := [.lit (.bool true)], args := [d1, d2, d3] }
  | _ => none }
def creditFreesRow : OpenClaim := { program := "ytnjkoapkgoiljaa", sum := "98e9e27d267447d8d0287062df4f805d55912e49ac54b5bdc11eb4987278727b", func := "lodestar/lodestarlaw17.CreditFrees", spec := "creditFrees", inPlace := ["sync/atomic.StoreUint32", "sync/atomic.LoadUint32", "sync/atomic.CompareAndSwapUint32"], apart := false }
def CreditFreesSaid : Prop := creditFreesRow.holds Try.pinned (OpenSpec.ofChange creditFreesSpec)

/-- ITS FALSE NEIGHBOUR: 'it returns false'. Refute it at one input. -/
def creditFreesWrong : ChangeSpec := { name := "creditFrees", fn := fun _ => fun
  | [d1, d2, d3] => { results := [.lit (.bool false)], args := [d1, d2, d3] }
  | _ => none }
def CreditFreesWrongFalsely : Prop := creditFreesRow.holds Try.pinned (OpenSpec.ofChange creditFreesWrong)

/-- 'lodestarlaw16.DedupOnce': WHATEVER THE INPUT: true; the input reads as it did. -/
def dedupOnceSpec : ChangeSpec := { name := "dedupOnce", fn := fun _ => fun
  | [d] => { results := [.lit (.bool true)], args := [d] }
  | _ => none }
def dedupOnceRow : OpenClaim := { program := "ytnjkoapkgoiljaa", sum := "98e9e27d267447d8d0287062df4f805d55912e49ac54b5bdc11eb4987278727b", func := "lodestar/lodestarlaw16.DedupOnce", spec := "dedupOnce", apart := false }
def DedupOnceSaid : Prop := dedupOnceRow.holds Try.pinned (OpenSpec.ofChange dedupOnceSpec)

/-- ITS FALSE NEIGHBOUR: 'it returns false'. Refute it at one input. -/
def dedupOnceWrong : ChangeSpec := { name := "dedupOnce", fn := fun _ => fun
  | [d] => { results := [.lit (.bool false)], args := [d] }
  | _ => none }
def DedupOnceWrongFalsely : Prop := dedupOnceRow.holds Try.pinned (OpenSpec.ofChange dedupOnceWrong)

/-- 'lodestarlaw16.DedupWrong': WHATEVER THE INPUT: true; the input reads as it did. -/
def dedupWrongSpec : ChangeSpec := { name := "dedupWrong", fn := fun _ => fun
  | [d1, d2, d3, d4] => { results := [.lit (.bool true)], args := [d1, d2, d3, d4] }
  | _ => none }
def dedupWrongRow : OpenClaim := { program := "ytnjkoapkgoiljaa", sum := "98e9e27d267447d8d0287062df4f805d55912e49ac54b5bdc11eb4987278727b", func := "lodestar/lodestarlaw16.DedupWrong", spec := "dedupWrong", apart := false }
def DedupWrongSaid : Prop := dedupWrongRow.holds Try.pinned (OpenSpec.ofChange dedupWrongSpec)

/-- ITS FALSE NEIGHBOUR: 'it returns false'. Refute it at one input. -/
def dedupWrongWrong : ChangeSpec := { name := "dedupWrong", fn := fun _ => fun
  | [d1, d2, d3, d4] => { results := [.lit (.bool false)], args := [d1, d2, d3, d4] }
  | _ => none }
def DedupWrongWrongFalsely : Prop := dedupWrongRow.holds Try.pinned (OpenSpec.ofChange dedupWrongWrong)

/-- 'lodestarlaw16.DedupPlays': WHATEVER THE INPUT: true; the input reads as it did. -/
def dedupPlaysSpec : ChangeSpec := { name := "dedupPlays", fn := fun _ => fun
  | [d] => { results := [.lit (.bool true)], args := [d] }
  | _ => none }
def dedupPlaysRow : OpenClaim := { program := "ytnjkoapkgoiljaa", sum := "98e9e27d267447d8d0287062df4f805d55912e49ac54b5bdc11eb4987278727b", func := "lodestar/lodestarlaw16.DedupPlays", spec := "dedupPlays", apart := false }
def DedupPlaysSaid : Prop := dedupPlaysRow.holds Try.pinned (OpenSpec.ofChange dedupPlaysSpec)

/-- ITS FALSE NEIGHBOUR: 'it returns false'. Refute it at one input. -/
def dedupPlaysWrong : ChangeSpec := { name := "dedupPlays", fn := fun _ => fun
  | [d] => { results := [.lit (.bool false)], args := [d] }
  | _ => none }
def DedupPlaysWrongFalsely : Prop := dedupPlaysRow.holds Try.pinned (OpenSpec.ofChange dedupPlaysWrong)

/-- 'lodestarlaw16.DedupFull': WHATEVER THE INPUT: true; the input reads as it did. -/
def dedupFullSpec : ChangeSpec := { name := "dedupFull", fn := fun _ => fun
  | [d1, d2] => { results := [.lit (.bool true)], args := [d1, d2] }
  | _ => none }
def dedupFullRow : OpenClaim := { program := "ytnjkoapkgoiljaa", sum := "98e9e27d267447d8d0287062df4f805d55912e49ac54b5bdc11eb4987278727b", func := "lodestar/lodestarlaw16.DedupFull", spec := "dedupFull", apart := false }
def DedupFullSaid : Prop := dedupFullRow.holds Try.pinned (OpenSpec.ofChange dedupFullSpec)

/-- ITS FALSE NEIGHBOUR: 'it returns false'. Refute it at one input. -/
def dedupFullWrong : ChangeSpec := { name := "dedupFull", fn := fun _ => fun
  | [d1, d2] => { results := [.lit (.bool false)], args := [d1, d2] }
  | _ => none }
def DedupFullWrongFalsely : Prop := dedupFullRow.holds Try.pinned (OpenSpec.ofChange dedupFullWrong)

/- THE SECOND FORM. 'bulk': how many values and letters a reading holds, each counted each time it is reached (what is shared counts as often as it is met; a slice's spare places count too). A statement '..UptoSaid' is the law's where the arguments, and the package variables that the reading takes, are together of bulk at most 1048576: NARROWER than '..Said'. Prove '..Said' where nothing that the law and all that it calls make is longer than what came in: it says more and counts as full. Else prove '..UptoSaid'. A law counts once. -/
mutual
def uptoBulk {H : Type} : DataW H → Nat
  | .lit (.string bytes) => bytes.length + 1
  | .lit _ => 1
  | .nil => 1
  | .ptr d => uptoBulk d + 1
  | .slice elems spare => uptoBulkAll elems + uptoBulkAll spare + 1
  | .agg parts => uptoBulkAll parts + 1
  | .iface _ d => uptoBulk d + 1
  | .map entries => uptoBulkEntries entries + 1
  | .held _ => 1
def uptoBulkAll {H : Type} : List (DataW H) → Nat
  | [] => 0
  | d :: r => uptoBulk d + uptoBulkAll r
def uptoBulkEntries {H : Type} : List (Lit × DataW H) → Nat
  | [] => 0
  | x :: r => uptoBulkEntry x + uptoBulkEntries r
def uptoBulkEntry {H : Type} : Lit × DataW H → Nat
  | (.string bytes, d) => bytes.length + uptoBulk d + 1
  | (_, d) => uptoBulk d + 1
 end
def uptoSmall : (H : Type) → List (DataW H) → Bool := fun _ ds => decide (uptoBulkAll ds ≤ 1048576)
def OpenSpec.upto (s : _root_.Go.ChangeSpec) : _root_.Go.OpenSpec := { _root_.Go.OpenSpec.ofChange s with cond := some uptoSmall }

/-- 'lodestarlaw20.RetryPlays', WHERE WHAT IT READS IS OF BULK AT MOST 1048576: true; the input reads as it did. -/
def retryPlaysUptoRow : OpenClaim := { program := "ytnjkoapkgoiljaa", sum := "98e9e27d267447d8d0287062df4f805d55912e49ac54b5bdc11eb4987278727b", func := "lodestar/lodestarlaw20.RetryPlays", spec := "retryPlays", inPlace := ["sync/atomic.LoadInt32", "sync/atomic.StoreInt32"], apart := false, narrowed := true }
def RetryPlaysUptoSaid : Prop := retryPlaysUptoRow.holds Try.pinned (OpenSpec.upto retryPlaysSpec)

/-- 'lodestarlaw20.RetryBound', WHERE WHAT IT READS IS OF BULK AT MOST 1048576: true; the input reads as it did. -/
def retryBoundUptoRow : OpenClaim := { program := "ytnjkoapkgoiljaa", sum := "98e9e27d267447d8d0287062df4f805d55912e49ac54b5bdc11eb4987278727b", func := "lodestar/lodestarlaw20.RetryBound", spec := "retryBound", inPlace := ["sync/atomic.LoadInt32", "sync/atomic.StoreInt32"], apart := false, narrowed := true }
def RetryBoundUptoSaid : Prop := retryBoundUptoRow.holds Try.pinned (OpenSpec.upto retryBoundSpec)

/-- 'lodestarlaw20.RetryGood', WHERE WHAT IT READS IS OF BULK AT MOST 1048576: true; the input reads as it did. -/
def retryGoodUptoRow : OpenClaim := { program := "ytnjkoapkgoiljaa", sum := "98e9e27d267447d8d0287062df4f805d55912e49ac54b5bdc11eb4987278727b", func := "lodestar/lodestarlaw20.RetryGood", spec := "retryGood", inPlace := ["sync/atomic.LoadInt32", "sync/atomic.StoreInt32"], apart := false, narrowed := true }
def RetryGoodUptoSaid : Prop := retryGoodUptoRow.holds Try.pinned (OpenSpec.upto retryGoodSpec)

/-- 'lodestarlaw17.CreditPairs', WHERE WHAT IT READS IS OF BULK AT MOST 1048576: true; the input reads as it did. -/
def creditPairsUptoRow : OpenClaim := { program := "ytnjkoapkgoiljaa", sum := "98e9e27d267447d8d0287062df4f805d55912e49ac54b5bdc11eb4987278727b", func := "lodestar/lodestarlaw17.CreditPairs", spec := "creditPairs", inPlace := ["sync/atomic.StoreUint32", "sync/atomic.LoadUint32", "sync/atomic.CompareAndSwapUint32"], apart := false, narrowed := true }
def CreditPairsUptoSaid : Prop := creditPairsUptoRow.holds Try.pinned (OpenSpec.upto creditPairsSpec)

/-- 'lodestarlaw17.CreditUnder', WHERE WHAT IT READS IS OF BULK AT MOST 1048576: true; the input reads as it did. -/
def creditUnderUptoRow : OpenClaim := { program := "ytnjkoapkgoiljaa", sum := "98e9e27d267447d8d0287062df4f805d55912e49ac54b5bdc11eb4987278727b", func := "lodestar/lodestarlaw17.CreditUnder", spec := "creditUnder", inPlace := ["sync/atomic.StoreUint32", "sync/atomic.LoadUint32", "sync/atomic.CompareAndSwapUint32"], apart := false, narrowed := true }
def CreditUnderUptoSaid : Prop := creditUnderUptoRow.holds Try.pinned (OpenSpec.upto creditUnderSpec)

/-- 'lodestarlaw17.CreditFrees', WHERE WHAT IT READS IS OF BULK AT MOST 1048576: true; the input reads as it did. -/
def creditFreesUptoRow : OpenClaim := { program := "ytnjkoapkgoiljaa", sum := "98e9e27d267447d8d0287062df4f805d55912e49ac54b5bdc11eb4987278727b", func := "lodestar/lodestarlaw17.CreditFrees", spec := "creditFrees", inPlace := ["sync/atomic.StoreUint32", "sync/atomic.LoadUint32", "sync/atomic.CompareAndSwapUint32"], apart := false, narrowed := true }
def CreditFreesUptoSaid : Prop := creditFreesUptoRow.holds Try.pinned (OpenSpec.upto creditFreesSpec)

/-- 'lodestarlaw16.DedupOnce', WHERE WHAT IT READS IS OF BULK AT MOST 1048576: true; the input reads as it did. -/
def dedupOnceUptoRow : OpenClaim := { program := "ytnjkoapkgoiljaa", sum := "98e9e27d267447d8d0287062df4f805d55912e49ac54b5bdc11eb4987278727b", func := "lodestar/lodestarlaw16.DedupOnce", spec := "dedupOnce", apart := false, narrowed := true }
def DedupOnceUptoSaid : Prop := dedupOnceUptoRow.holds Try.pinned (OpenSpec.upto dedupOnceSpec)

/-- 'lodestarlaw16.DedupWrong', WHERE WHAT IT READS IS OF BULK AT MOST 1048576: true; the input reads as it did. -/
def dedupWrongUptoRow : OpenClaim := { program := "ytnjkoapkgoiljaa", sum := "98e9e27d267447d8d0287062df4f805d55912e49ac54b5bdc11eb4987278727b", func := "lodestar/lodestarlaw16.DedupWrong", spec := "dedupWrong", apart := false, narrowed := true }
def DedupWrongUptoSaid : Prop := dedupWrongUptoRow.holds Try.pinned (OpenSpec.upto dedupWrongSpec)

/-- 'lodestarlaw16.DedupPlays', WHERE WHAT IT READS IS OF BULK AT MOST 1048576: true; the input reads as it did. -/
def dedupPlaysUptoRow : OpenClaim := { program := "ytnjkoapkgoiljaa", sum := "98e9e27d267447d8d0287062df4f805d55912e49ac54b5bdc11eb4987278727b", func := "lodestar/lodestarlaw16.DedupPlays", spec := "dedupPlays", apart := false, narrowed := true }
def DedupPlaysUptoSaid : Prop := dedupPlaysUptoRow.holds Try.pinned (OpenSpec.upto dedupPlaysSpec)

/-- 'lodestarlaw16.DedupFull', WHERE WHAT IT READS IS OF BULK AT MOST 1048576: true; the input reads as it did. -/
def dedupFullUptoRow : OpenClaim := { program := "ytnjkoapkgoiljaa", sum := "98e9e27d267447d8d0287062df4f805d55912e49ac54b5bdc11eb4987278727b", func := "lodestar/lodestarlaw16.DedupFull", spec := "dedupFull", apart := false, narrowed := true }
def DedupFullUptoSaid : Prop := dedupFullUptoRow.holds Try.pinned (OpenSpec.upto dedupFullSpec)

end Rows
end Go.Proofs.Ytnjkoapkgoiljaa
