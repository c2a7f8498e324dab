/-
  No cell of these rows narrows 'for every input' (looked for: loops, veiled, ifaces, maps, wideKeys, modest, calm, conditions, laid).
  DERIVED. THE GIVEN ROWS OF THIS SEAT. 6 by the template 'for every input the law returns true; each argument reads behind the call as it read before'; 0 by the template 'total and deterministic' (their statements: YtahopbjoaoiknaaTotals.lean).
  GIVEN WITH THE SEED: the statements are not yours to turn. If you find one false, say at which input.
  Laid BY PROGRAM, IN A SANDBOX (cutbox-rows.mjs): the forced cells as the released guide's own fill.sh prints them over the translation 47e975da89dd1381… (all of the seat's roots in one cut). By AI agents, Wed Nov 11 2026. No macro, syntax, notation, axiom, sorry.
-/
import Derived.Test.YtahopbjoaoiknaaChecked
import GoSem.Claim
import GoSem.ClaimJoined
import GoSem.ClaimMapViews
import Derived.JoinedTies
import Derived.KernelRfl
namespace Go.Proofs.Ytahopbjoaoiknaa
/- THE CELL 'sum', in the pinned program and in every row, IS THE sha256 OF THE DUMP (.gsa) THAT YtahopbjoaoiknaaProg.lean LOADS. Nothing in Lean hashes anything: it is a label: what it is worth is what the hold of that sum in a sandbox is worth. -/
noncomputable def Try.pinned : Pinned := { name := "ytahopbjoaoiknaa", sum := "47e975da89dd1381e8f46b7c209e35f25219ce274c285adb1aeceeaba469ec1f", checked := Try.checked }
namespace Rows
def none {H : Type} : Left H := { results := [], args := [] }

/-- 'lodestarlaw03.TagsMore': WHATEVER THE INPUT: true; the input reads as it did. -/
def tagsMoreSpec : ChangeSpec := { name := "tagsMore", fn := fun _ => fun
  | [d1, d2, d3] => { results := [.lit (.bool true)], args := [d1, d2, d3] }
  | _ => none }
def tagsMoreRow : OpenClaim := { program := "ytahopbjoaoiknaa", sum := "47e975da89dd1381e8f46b7c209e35f25219ce274c285adb1aeceeaba469ec1f", func := "lodestar/lodestarlaw03.TagsMore", spec := "tagsMore", unfollowed := true, recurses := true, apart := false }
def TagsMoreSaid : Prop := tagsMoreRow.holds Try.pinned (OpenSpec.ofChange tagsMoreSpec)

/-- ITS FALSE NEIGHBOUR: 'it returns false'. Refute it at one input. -/
def tagsMoreWrong : ChangeSpec := { name := "tagsMore", fn := fun _ => fun
  | [d1, d2, d3] => { results := [.lit (.bool false)], args := [d1, d2, d3] }
  | _ => none }
def TagsMoreWrongFalsely : Prop := tagsMoreRow.holds Try.pinned (OpenSpec.ofChange tagsMoreWrong)

/-- 'lodestarlaw09.StoreAll': WHATEVER THE INPUT: true; the input reads as it did. -/
def storeAllSpec : ChangeSpec := { name := "storeAll", fn := fun _ => fun
  | [d1, d2] => { results := [.lit (.bool true)], args := [d1, d2] }
  | _ => none }
def storeAllRow : OpenClaim := { program := "ytahopbjoaoiknaa", sum := "47e975da89dd1381e8f46b7c209e35f25219ce274c285adb1aeceeaba469ec1f", func := "lodestar/lodestarlaw09.StoreAll", spec := "storeAll", inPlace := ["maps.clone", "sync/atomic.LoadUint64", "sync/atomic.AddUint64", "sync/atomic.AddInt32"], unfollowed := true, recurses := true, apart := false }
def StoreAllSaid : Prop := storeAllRow.holds Try.pinned (OpenSpec.ofChange storeAllSpec)

/-- ITS FALSE NEIGHBOUR: 'it returns false'. Refute it at one input. -/
def storeAllWrong : ChangeSpec := { name := "storeAll", fn := fun _ => fun
  | [d1, d2] => { results := [.lit (.bool false)], args := [d1, d2] }
  | _ => none }
def StoreAllWrongFalsely : Prop := storeAllRow.holds Try.pinned (OpenSpec.ofChange storeAllWrong)

/-- 'lodestarlaw09.StoreApart': WHATEVER THE INPUT: true; the input reads as it did. -/
def storeApartSpec : ChangeSpec := { name := "storeApart", fn := fun _ => fun
  | [d1, d2] => { results := [.lit (.bool true)], args := [d1, d2] }
  | _ => none }
def storeApartRow : OpenClaim := { program := "ytahopbjoaoiknaa", sum := "47e975da89dd1381e8f46b7c209e35f25219ce274c285adb1aeceeaba469ec1f", func := "lodestar/lodestarlaw09.StoreApart", spec := "storeApart", inPlace := ["maps.clone", "sync/atomic.LoadUint64", "sync/atomic.AddUint64", "sync/atomic.AddInt32"], unfollowed := true, recurses := true, apart := false }
def StoreApartSaid : Prop := storeApartRow.holds Try.pinned (OpenSpec.ofChange storeApartSpec)

/-- ITS FALSE NEIGHBOUR: 'it returns false'. Refute it at one input. -/
def storeApartWrong : ChangeSpec := { name := "storeApart", fn := fun _ => fun
  | [d1, d2] => { results := [.lit (.bool false)], args := [d1, d2] }
  | _ => none }
def StoreApartWrongFalsely : Prop := storeApartRow.holds Try.pinned (OpenSpec.ofChange storeApartWrong)

/-- 'lodestarlaw09.StorePinned': WHATEVER THE INPUT: true; the input reads as it did. -/
def storePinnedSpec : ChangeSpec := { name := "storePinned", fn := fun _ => fun
  | [d1, d2] => { results := [.lit (.bool true)], args := [d1, d2] }
  | _ => none }
def storePinnedRow : OpenClaim := { program := "ytahopbjoaoiknaa", sum := "47e975da89dd1381e8f46b7c209e35f25219ce274c285adb1aeceeaba469ec1f", func := "lodestar/lodestarlaw09.StorePinned", spec := "storePinned", inPlace := ["maps.clone", "sync/atomic.LoadUint64", "sync/atomic.AddUint64", "sync/atomic.AddInt32"], unfollowed := true, recurses := true, apart := false }
def StorePinnedSaid : Prop := storePinnedRow.holds Try.pinned (OpenSpec.ofChange storePinnedSpec)

/-- ITS FALSE NEIGHBOUR: 'it returns false'. Refute it at one input. -/
def storePinnedWrong : ChangeSpec := { name := "storePinned", fn := fun _ => fun
  | [d1, d2] => { results := [.lit (.bool false)], args := [d1, d2] }
  | _ => none }
def StorePinnedWrongFalsely : Prop := storePinnedRow.holds Try.pinned (OpenSpec.ofChange storePinnedWrong)

/-- 'lodestarlaw09.StoreSwept': WHATEVER THE INPUT: true; the input reads as it did. -/
def storeSweptSpec : ChangeSpec := { name := "storeSwept", fn := fun _ => fun
  | [d] => { results := [.lit (.bool true)], args := [d] }
  | _ => none }
def storeSweptRow : OpenClaim := { program := "ytahopbjoaoiknaa", sum := "47e975da89dd1381e8f46b7c209e35f25219ce274c285adb1aeceeaba469ec1f", func := "lodestar/lodestarlaw09.StoreSwept", spec := "storeSwept", inPlace := ["maps.clone", "sync/atomic.LoadUint64", "sync/atomic.AddUint64", "sync/atomic.AddInt32"], unfollowed := true, recurses := true, apart := false }
def StoreSweptSaid : Prop := storeSweptRow.holds Try.pinned (OpenSpec.ofChange storeSweptSpec)

/-- ITS FALSE NEIGHBOUR: 'it returns false'. Refute it at one input. -/
def storeSweptWrong : ChangeSpec := { name := "storeSwept", fn := fun _ => fun
  | [d] => { results := [.lit (.bool false)], args := [d] }
  | _ => none }
def StoreSweptWrongFalsely : Prop := storeSweptRow.holds Try.pinned (OpenSpec.ofChange storeSweptWrong)

/-- 'lodestarlaw09.StoreVersions': WHATEVER THE INPUT: true; the input reads as it did. -/
def storeVersionsSpec : ChangeSpec := { name := "storeVersions", fn := fun _ => fun
  | [d] => { results := [.lit (.bool true)], args := [d] }
  | _ => none }
def storeVersionsRow : OpenClaim := { program := "ytahopbjoaoiknaa", sum := "47e975da89dd1381e8f46b7c209e35f25219ce274c285adb1aeceeaba469ec1f", func := "lodestar/lodestarlaw09.StoreVersions", spec := "storeVersions", inPlace := ["maps.clone", "sync/atomic.LoadUint64", "sync/atomic.AddUint64", "sync/atomic.AddInt32"], unfollowed := true, recurses := true, apart := false }
def StoreVersionsSaid : Prop := storeVersionsRow.holds Try.pinned (OpenSpec.ofChange storeVersionsSpec)

/-- ITS FALSE NEIGHBOUR: 'it returns false'. Refute it at one input. -/
def storeVersionsWrong : ChangeSpec := { name := "storeVersions", fn := fun _ => fun
  | [d] => { results := [.lit (.bool false)], args := [d] }
  | _ => none }
def StoreVersionsWrongFalsely : Prop := storeVersionsRow.holds Try.pinned (OpenSpec.ofChange storeVersionsWrong)

/- THE SECOND FORM. 'bulk': how many values and letters a reading holds, each counted each time it is reached (what is shared counts as often as it is met; a slice's spare places count too). A statement '..UptoSaid' is the law's where the arguments, and the package variables that the reading takes, are together of bulk at most 1048576: NARROWER than '..Said'. Prove '..Said' where nothing that the law and all that it calls make is longer than what came in: it says more and counts as full. Else prove '..UptoSaid'. A law counts once. -/
mutual
def uptoBulk {H : Type} : DataW H → Nat
  | .lit (.string bytes) => bytes.length + 1
  | .lit _ => 1
  | .nil => 1
  | .ptr d => uptoBulk d + 1
  | .slice elems spare => uptoBulkAll elems + uptoBulkAll spare + 1
  | .agg parts => uptoBulkAll parts + 1
  | .iface _ d => uptoBulk d + 1
  | .map entries => uptoBulkEntries entries + 1
  | .held _ => 1
def uptoBulkAll {H : Type} : List (DataW H) → Nat
  | [] => 0
  | d :: r => uptoBulk d + uptoBulkAll r
def uptoBulkEntries {H : Type} : List (Lit × DataW H) → Nat
  | [] => 0
  | x :: r => uptoBulkEntry x + uptoBulkEntries r
def uptoBulkEntry {H : Type} : Lit × DataW H → Nat
  | (.string bytes, d) => bytes.length + uptoBulk d + 1
  | (_, d) => uptoBulk d + 1
 end
def uptoSmall : (H : Type) → List (DataW H) → Bool := fun _ ds => decide (uptoBulkAll ds ≤ 1048576)
def OpenSpec.upto (s : _root_.Go.ChangeSpec) : _root_.Go.OpenSpec := { _root_.Go.OpenSpec.ofChange s with cond := some uptoSmall }

/-- 'lodestarlaw03.TagsMore', WHERE WHAT IT READS IS OF BULK AT MOST 1048576: true; the input reads as it did. -/
def tagsMoreUptoRow : OpenClaim := { program := "ytahopbjoaoiknaa", sum := "47e975da89dd1381e8f46b7c209e35f25219ce274c285adb1aeceeaba469ec1f", func := "lodestar/lodestarlaw03.TagsMore", spec := "tagsMore", unfollowed := true, recurses := true, apart := false, narrowed := true }
def TagsMoreUptoSaid : Prop := tagsMoreUptoRow.holds Try.pinned (OpenSpec.upto tagsMoreSpec)

/-- 'lodestarlaw09.StoreAll', WHERE WHAT IT READS IS OF BULK AT MOST 1048576: true; the input reads as it did. -/
def storeAllUptoRow : OpenClaim := { program := "ytahopbjoaoiknaa", sum := "47e975da89dd1381e8f46b7c209e35f25219ce274c285adb1aeceeaba469ec1f", func := "lodestar/lodestarlaw09.StoreAll", spec := "storeAll", inPlace := ["maps.clone", "sync/atomic.LoadUint64", "sync/atomic.AddUint64", "sync/atomic.AddInt32"], unfollowed := true, recurses := true, apart := false, narrowed := true }
def StoreAllUptoSaid : Prop := storeAllUptoRow.holds Try.pinned (OpenSpec.upto storeAllSpec)

/-- 'lodestarlaw09.StoreApart', WHERE WHAT IT READS IS OF BULK AT MOST 1048576: true; the input reads as it did. -/
def storeApartUptoRow : OpenClaim := { program := "ytahopbjoaoiknaa", sum := "47e975da89dd1381e8f46b7c209e35f25219ce274c285adb1aeceeaba469ec1f", func := "lodestar/lodestarlaw09.StoreApart", spec := "storeApart", inPlace := ["maps.clone", "sync/atomic.LoadUint64", "sync/atomic.AddUint64", "sync/atomic.AddInt32"], unfollowed := true, recurses := true, apart := false, narrowed := true }
def StoreApartUptoSaid : Prop := storeApartUptoRow.holds Try.pinned (OpenSpec.upto storeApartSpec)

/-- 'lodestarlaw09.StorePinned', WHERE WHAT IT READS IS OF BULK AT MOST 1048576: true; the input reads as it did. -/
def storePinnedUptoRow : OpenClaim := { program := "ytahopbjoaoiknaa", sum := "47e975da89dd1381e8f46b7c209e35f25219ce274c285adb1aeceeaba469ec1f", func := "lodestar/lodestarlaw09.StorePinned", spec := "storePinned", inPlace := ["maps.clone", "sync/atomic.LoadUint64", "sync/atomic.AddUint64", "sync/atomic.AddInt32"], unfollowed := true, recurses := true, apart := false, narrowed := true }
def StorePinnedUptoSaid : Prop := storePinnedUptoRow.holds Try.pinned (OpenSpec.upto storePinnedSpec)

/-- 'lodestarlaw09.StoreSwept', WHERE WHAT IT READS IS OF BULK AT MOST 1048576: true; the input reads as it did. -/
def storeSweptUptoRow : OpenClaim := { program := "ytahopbjoaoiknaa", sum := "47e975da89dd1381e8f46b7c209e35f25219ce274c285adb1aeceeaba469ec1f", func := "lodestar/lodestarlaw09.StoreSwept", spec := "storeSwept", inPlace := ["maps.clone", "sync/atomic.LoadUint64", "sync/atomic.AddUint64", "sync/atomic.AddInt32"], unfollowed := true, recurses := true, apart := false, narrowed := true }
def StoreSweptUptoSaid : Prop := storeSweptUptoRow.holds Try.pinned (OpenSpec.upto storeSweptSpec)

/-- 'lodestarlaw09.StoreVersions', WHERE WHAT IT READS IS OF BULK AT MOST 1048576: true; the input reads as it did. -/
def storeVersionsUptoRow : OpenClaim := { program := "ytahopbjoaoiknaa", sum := "47e975da89dd1381e8f46b7c209e35f25219ce274c285adb1aeceeaba469ec1f", func := "lodestar/lodestarlaw09.StoreVersions", spec := "storeVersions", inPlace := ["maps.clone", "sync/atomic.LoadUint64", "sync/atomic.AddUint64", "sync/atomic.AddInt32"], unfollowed := true, recurses := true, apart := false, narrowed := true }
def StoreVersionsUptoSaid : Prop := storeVersionsUptoRow.holds Try.pinned (OpenSpec.upto storeVersionsSpec)

end Rows
end Go.Proofs.Ytahopbjoaoiknaa
