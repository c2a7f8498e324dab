/-
  No cell of these rows narrows 'for every input' (looked for: loops, veiled, ifaces, maps, wideKeys, modest, calm, conditions, laid).
  DERIVED. THE GIVEN ROWS OF THIS SEAT. 12 by the template 'for every input the law returns true; each argument reads behind the call as it read before'; 0 by the template 'total and deterministic' (their statements: YtcamhpjgpjihhaaTotals.lean).
  GIVEN WITH THE SEED: the statements are not yours to turn. If you find one false, say at which input.
  Laid BY PROGRAM, IN A SANDBOX (cutbox-rows.mjs): the forced cells as the released guide's own fill.sh prints them over the translation 2e4366476cef314b… (all of the seat's roots in one cut). By AI agents, Wed Nov 11 2026. No macro, syntax, notation, axiom, sorry.
-/
import Derived.Test.YtcamhpjgpjihhaaChecked
import GoSem.Claim
import GoSem.ClaimJoined
import GoSem.ClaimMapViews
import Derived.JoinedTies
import Derived.KernelRfl
namespace Go.Proofs.Ytcamhpjgpjihhaa
/- THE CELL 'sum', in the pinned program and in every row, IS THE sha256 OF THE DUMP (.gsa) THAT YtcamhpjgpjihhaaProg.lean LOADS. Nothing in Lean hashes anything: it is a label: what it is worth is what the hold of that sum in a sandbox is worth. -/
noncomputable def Try.pinned : Pinned := { name := "ytcamhpjgpjihhaa", sum := "2e4366476cef314b7e571cb3377a67b57086b3cd44cafe44be7c189873dbcb3f", checked := Try.checked }
namespace Rows
def none {H : Type} : Left H := { results := [], args := [] }

/-- 'lodestarlaw03.TagsMatch': WHATEVER THE INPUT: true; the input reads as it did. -/
def tagsMatchSpec : ChangeSpec := { name := "tagsMatch", fn := fun _ => fun
  | [d1, d2] => { results := [.lit (.bool true)], args := [d1, d2] }
  | _ => none }
def tagsMatchRow : OpenClaim := { program := "ytcamhpjgpjihhaa", sum := "2e4366476cef314b7e571cb3377a67b57086b3cd44cafe44be7c189873dbcb3f", func := "lodestar/lodestarlaw03.TagsMatch", spec := "tagsMatch", unfollowed := true, recurses := true, apart := false }
def TagsMatchSaid : Prop := tagsMatchRow.holds Try.pinned (OpenSpec.ofChange tagsMatchSpec)

/-- ITS FALSE NEIGHBOUR: 'it returns false'. Refute it at one input. -/
def tagsMatchWrong : ChangeSpec := { name := "tagsMatch", fn := fun _ => fun
  | [d1, d2] => { results := [.lit (.bool false)], args := [d1, d2] }
  | _ => none }
def TagsMatchWrongFalsely : Prop := tagsMatchRow.holds Try.pinned (OpenSpec.ofChange tagsMatchWrong)

/-- 'lodestarlaw03.TagsSorts': WHATEVER THE INPUT: true; the input reads as it did. -/
def tagsSortsSpec : ChangeSpec := { name := "tagsSorts", fn := fun _ => fun
  | [d] => { results := [.lit (.bool true)], args := [d] }
  | _ => none }
def tagsSortsRow : OpenClaim := { program := "ytcamhpjgpjihhaa", sum := "2e4366476cef314b7e571cb3377a67b57086b3cd44cafe44be7c189873dbcb3f", func := "lodestar/lodestarlaw03.TagsSorts", spec := "tagsSorts", unfollowed := true, recurses := true, apart := false }
def TagsSortsSaid : Prop := tagsSortsRow.holds Try.pinned (OpenSpec.ofChange tagsSortsSpec)

/-- ITS FALSE NEIGHBOUR: 'it returns false'. Refute it at one input. -/
def tagsSortsWrong : ChangeSpec := { name := "tagsSorts", fn := fun _ => fun
  | [d] => { results := [.lit (.bool false)], args := [d] }
  | _ => none }
def TagsSortsWrongFalsely : Prop := tagsSortsRow.holds Try.pinned (OpenSpec.ofChange tagsSortsWrong)

/-- 'lodestarlaw03.TagsMore': WHATEVER THE INPUT: true; the input reads as it did. -/
def tagsMoreSpec : ChangeSpec := { name := "tagsMore", fn := fun _ => fun
  | [d1, d2, d3] => { results := [.lit (.bool true)], args := [d1, d2, d3] }
  | _ => none }
def tagsMoreRow : OpenClaim := { program := "ytcamhpjgpjihhaa", sum := "2e4366476cef314b7e571cb3377a67b57086b3cd44cafe44be7c189873dbcb3f", func := "lodestar/lodestarlaw03.TagsMore", spec := "tagsMore", unfollowed := true, recurses := true, apart := false }
def TagsMoreSaid : Prop := tagsMoreRow.holds Try.pinned (OpenSpec.ofChange tagsMoreSpec)

/-- ITS FALSE NEIGHBOUR: 'it returns false'. Refute it at one input. -/
def tagsMoreWrong : ChangeSpec := { name := "tagsMore", fn := fun _ => fun
  | [d1, d2, d3] => { results := [.lit (.bool false)], args := [d1, d2, d3] }
  | _ => none }
def TagsMoreWrongFalsely : Prop := tagsMoreRow.holds Try.pinned (OpenSpec.ofChange tagsMoreWrong)

/-- 'lodestarlaw03.TagsSame': WHATEVER THE INPUT: true; the input reads as it did. -/
def tagsSameSpec : ChangeSpec := { name := "tagsSame", fn := fun _ => fun
  | [d] => { results := [.lit (.bool true)], args := [d] }
  | _ => none }
def tagsSameRow : OpenClaim := { program := "ytcamhpjgpjihhaa", sum := "2e4366476cef314b7e571cb3377a67b57086b3cd44cafe44be7c189873dbcb3f", func := "lodestar/lodestarlaw03.TagsSame", spec := "tagsSame", unfollowed := true, recurses := true, apart := false }
def TagsSameSaid : Prop := tagsSameRow.holds Try.pinned (OpenSpec.ofChange tagsSameSpec)

/-- ITS FALSE NEIGHBOUR: 'it returns false'. Refute it at one input. -/
def tagsSameWrong : ChangeSpec := { name := "tagsSame", fn := fun _ => fun
  | [d] => { results := [.lit (.bool false)], args := [d] }
  | _ => none }
def TagsSameWrongFalsely : Prop := tagsSameRow.holds Try.pinned (OpenSpec.ofChange tagsSameWrong)

/-- 'lodestarlaw03.TagsParts': WHATEVER THE INPUT: true; the input reads as it did. -/
def tagsPartsSpec : ChangeSpec := { name := "tagsParts", fn := fun _ => fun
  | [d1, d2] => { results := [.lit (.bool true)], args := [d1, d2] }
  | _ => none }
def tagsPartsRow : OpenClaim := { program := "ytcamhpjgpjihhaa", sum := "2e4366476cef314b7e571cb3377a67b57086b3cd44cafe44be7c189873dbcb3f", func := "lodestar/lodestarlaw03.TagsParts", spec := "tagsParts", unfollowed := true, recurses := true, apart := false }
def TagsPartsSaid : Prop := tagsPartsRow.holds Try.pinned (OpenSpec.ofChange tagsPartsSpec)

/-- ITS FALSE NEIGHBOUR: 'it returns false'. Refute it at one input. -/
def tagsPartsWrong : ChangeSpec := { name := "tagsParts", fn := fun _ => fun
  | [d1, d2] => { results := [.lit (.bool false)], args := [d1, d2] }
  | _ => none }
def TagsPartsWrongFalsely : Prop := tagsPartsRow.holds Try.pinned (OpenSpec.ofChange tagsPartsWrong)

/-- 'lodestarlaw03.TagsChecks': WHATEVER THE INPUT: true; the input reads as it did. -/
def tagsChecksSpec : ChangeSpec := { name := "tagsChecks", fn := fun _ => fun
  | [d1, d2] => { results := [.lit (.bool true)], args := [d1, d2] }
  | _ => none }
def tagsChecksRow : OpenClaim := { program := "ytcamhpjgpjihhaa", sum := "2e4366476cef314b7e571cb3377a67b57086b3cd44cafe44be7c189873dbcb3f", func := "lodestar/lodestarlaw03.TagsChecks", spec := "tagsChecks", unfollowed := true, recurses := true, apart := false }
def TagsChecksSaid : Prop := tagsChecksRow.holds Try.pinned (OpenSpec.ofChange tagsChecksSpec)

/-- ITS FALSE NEIGHBOUR: 'it returns false'. Refute it at one input. -/
def tagsChecksWrong : ChangeSpec := { name := "tagsChecks", fn := fun _ => fun
  | [d1, d2] => { results := [.lit (.bool false)], args := [d1, d2] }
  | _ => none }
def TagsChecksWrongFalsely : Prop := tagsChecksRow.holds Try.pinned (OpenSpec.ofChange tagsChecksWrong)

/-- 'lodestarlaw03.TagsOwn': WHATEVER THE INPUT: true; the input reads as it did. -/
def tagsOwnSpec : ChangeSpec := { name := "tagsOwn", fn := fun _ => fun
  | [d1, d2] => { results := [.lit (.bool true)], args := [d1, d2] }
  | _ => none }
def tagsOwnRow : OpenClaim := { program := "ytcamhpjgpjihhaa", sum := "2e4366476cef314b7e571cb3377a67b57086b3cd44cafe44be7c189873dbcb3f", func := "lodestar/lodestarlaw03.TagsOwn", spec := "tagsOwn", unfollowed := true, recurses := true, apart := false }
def TagsOwnSaid : Prop := tagsOwnRow.holds Try.pinned (OpenSpec.ofChange tagsOwnSpec)

/-- ITS FALSE NEIGHBOUR: 'it returns false'. Refute it at one input. -/
def tagsOwnWrong : ChangeSpec := { name := "tagsOwn", fn := fun _ => fun
  | [d1, d2] => { results := [.lit (.bool false)], args := [d1, d2] }
  | _ => none }
def TagsOwnWrongFalsely : Prop := tagsOwnRow.holds Try.pinned (OpenSpec.ofChange tagsOwnWrong)

/-- 'lodestarlaw14.CursorAgain': WHATEVER THE INPUT: true; the input reads as it did. -/
def cursorAgainSpec : ChangeSpec := { name := "cursorAgain", fn := fun _ => fun
  | [d1, d2] => { results := [.lit (.bool true)], args := [d1, d2] }
  | _ => none }
def cursorAgainRow : OpenClaim := { program := "ytcamhpjgpjihhaa", sum := "2e4366476cef314b7e571cb3377a67b57086b3cd44cafe44be7c189873dbcb3f", func := "lodestar/lodestarlaw14.CursorAgain", spec := "cursorAgain", apart := false }
def CursorAgainSaid : Prop := cursorAgainRow.holds Try.pinned (OpenSpec.ofChange cursorAgainSpec)

/-- ITS FALSE NEIGHBOUR: 'it returns false'. Refute it at one input. -/
def cursorAgainWrong : ChangeSpec := { name := "cursorAgain", fn := fun _ => fun
  | [d1, d2] => { results := [.lit (.bool false)], args := [d1, d2] }
  | _ => none }
def CursorAgainWrongFalsely : Prop := cursorAgainRow.holds Try.pinned (OpenSpec.ofChange cursorAgainWrong)

/-- 'lodestarlaw14.CursorIdle': WHATEVER THE INPUT: true; the input reads as it did. -/
def cursorIdleSpec : ChangeSpec := { name := "cursorIdle", fn := fun _ => fun
  | [d1, d2] => { results := [.lit (.bool true)], args := [d1, d2] }
  | _ => none }
def cursorIdleRow : OpenClaim := { program := "ytcamhpjgpjihhaa", sum := "2e4366476cef314b7e571cb3377a67b57086b3cd44cafe44be7c189873dbcb3f", func := "lodestar/lodestarlaw14.CursorIdle", spec := "cursorIdle", unfollowed := true, recurses := true, apart := false }
def CursorIdleSaid : Prop := cursorIdleRow.holds Try.pinned (OpenSpec.ofChange cursorIdleSpec)

/-- ITS FALSE NEIGHBOUR: 'it returns false'. Refute it at one input. -/
def cursorIdleWrong : ChangeSpec := { name := "cursorIdle", fn := fun _ => fun
  | [d1, d2] => { results := [.lit (.bool false)], args := [d1, d2] }
  | _ => none }
def CursorIdleWrongFalsely : Prop := cursorIdleRow.holds Try.pinned (OpenSpec.ofChange cursorIdleWrong)

/-- 'lodestarlaw14.CursorApart': WHATEVER THE INPUT: true; the input reads as it did. -/
def cursorApartSpec : ChangeSpec := { name := "cursorApart", fn := fun _ => fun
  | [d1, d2, d3, d4] => { results := [.lit (.bool true)], args := [d1, d2, d3, d4] }
  | _ => none }
def cursorApartRow : OpenClaim := { program := "ytcamhpjgpjihhaa", sum := "2e4366476cef314b7e571cb3377a67b57086b3cd44cafe44be7c189873dbcb3f", func := "lodestar/lodestarlaw14.CursorApart", spec := "cursorApart", unfollowed := true, recurses := true, apart := false }
def CursorApartSaid : Prop := cursorApartRow.holds Try.pinned (OpenSpec.ofChange cursorApartSpec)

/-- ITS FALSE NEIGHBOUR: 'it returns false'. Refute it at one input. -/
def cursorApartWrong : ChangeSpec := { name := "cursorApart", fn := fun _ => fun
  | [d1, d2, d3, d4] => { results := [.lit (.bool false)], args := [d1, d2, d3, d4] }
  | _ => none }
def CursorApartWrongFalsely : Prop := cursorApartRow.holds Try.pinned (OpenSpec.ofChange cursorApartWrong)

/-- 'lodestarlaw14.CursorPlays': WHATEVER THE INPUT: true; the input reads as it did. -/
def cursorPlaysSpec : ChangeSpec := { name := "cursorPlays", fn := fun _ => fun
  | [d1, d2] => { results := [.lit (.bool true)], args := [d1, d2] }
  | _ => none }
def cursorPlaysRow : OpenClaim := { program := "ytcamhpjgpjihhaa", sum := "2e4366476cef314b7e571cb3377a67b57086b3cd44cafe44be7c189873dbcb3f", func := "lodestar/lodestarlaw14.CursorPlays", spec := "cursorPlays", unfollowed := true, recurses := true, apart := false }
def CursorPlaysSaid : Prop := cursorPlaysRow.holds Try.pinned (OpenSpec.ofChange cursorPlaysSpec)

/-- ITS FALSE NEIGHBOUR: 'it returns false'. Refute it at one input. -/
def cursorPlaysWrong : ChangeSpec := { name := "cursorPlays", fn := fun _ => fun
  | [d1, d2] => { results := [.lit (.bool false)], args := [d1, d2] }
  | _ => none }
def CursorPlaysWrongFalsely : Prop := cursorPlaysRow.holds Try.pinned (OpenSpec.ofChange cursorPlaysWrong)

/-- 'lodestarlaw14.CursorGone': WHATEVER THE INPUT: true; the input reads as it did. -/
def cursorGoneSpec : ChangeSpec := { name := "cursorGone", fn := fun _ => fun
  | [d1, d2] => { results := [.lit (.bool true)], args := [d1, d2] }
  | _ => none }
def cursorGoneRow : OpenClaim := { program := "ytcamhpjgpjihhaa", sum := "2e4366476cef314b7e571cb3377a67b57086b3cd44cafe44be7c189873dbcb3f", func := "lodestar/lodestarlaw14.CursorGone", spec := "cursorGone", unfollowed := true, recurses := true, apart := false }
def CursorGoneSaid : Prop := cursorGoneRow.holds Try.pinned (OpenSpec.ofChange cursorGoneSpec)

/-- ITS FALSE NEIGHBOUR: 'it returns false'. Refute it at one input. -/
def cursorGoneWrong : ChangeSpec := { name := "cursorGone", fn := fun _ => fun
  | [d1, d2] => { results := [.lit (.bool false)], args := [d1, d2] }
  | _ => none }
def CursorGoneWrongFalsely : Prop := cursorGoneRow.holds Try.pinned (OpenSpec.ofChange cursorGoneWrong)

/- THE SECOND FORM. 'bulk': how many values and letters a reading holds, each counted each time it is reached (what is shared counts as often as it is met; a slice's spare places count too). A statement '..UptoSaid' is the law's where the arguments, and the package variables that the reading takes, are together of bulk at most 1048576: NARROWER than '..Said'. Prove '..Said' where nothing that the law and all that it calls make is longer than what came in: it says more and counts as full. Else prove '..UptoSaid'. A law counts once. -/
mutual
def uptoBulk {H : Type} : DataW H → Nat
  | .lit (.string bytes) => bytes.length + 1
  | .lit _ => 1
  | .nil => 1
  | .ptr d => uptoBulk d + 1
  | .slice elems spare => uptoBulkAll elems + uptoBulkAll spare + 1
  | .agg parts => uptoBulkAll parts + 1
  | .iface _ d => uptoBulk d + 1
  | .map entries => uptoBulkEntries entries + 1
  | .held _ => 1
def uptoBulkAll {H : Type} : List (DataW H) → Nat
  | [] => 0
  | d :: r => uptoBulk d + uptoBulkAll r
def uptoBulkEntries {H : Type} : List (Lit × DataW H) → Nat
  | [] => 0
  | x :: r => uptoBulkEntry x + uptoBulkEntries r
def uptoBulkEntry {H : Type} : Lit × DataW H → Nat
  | (.string bytes, d) => bytes.length + uptoBulk d + 1
  | (_, d) => uptoBulk d + 1
 end
def uptoSmall : (H : Type) → List (DataW H) → Bool := fun _ ds => decide (uptoBulkAll ds ≤ 1048576)
def OpenSpec.upto (s : _root_.Go.ChangeSpec) : _root_.Go.OpenSpec := { _root_.Go.OpenSpec.ofChange s with cond := some uptoSmall }

/-- 'lodestarlaw03.TagsMatch', WHERE WHAT IT READS IS OF BULK AT MOST 1048576: true; the input reads as it did. -/
def tagsMatchUptoRow : OpenClaim := { program := "ytcamhpjgpjihhaa", sum := "2e4366476cef314b7e571cb3377a67b57086b3cd44cafe44be7c189873dbcb3f", func := "lodestar/lodestarlaw03.TagsMatch", spec := "tagsMatch", unfollowed := true, recurses := true, apart := false, narrowed := true }
def TagsMatchUptoSaid : Prop := tagsMatchUptoRow.holds Try.pinned (OpenSpec.upto tagsMatchSpec)

/-- 'lodestarlaw03.TagsSorts', WHERE WHAT IT READS IS OF BULK AT MOST 1048576: true; the input reads as it did. -/
def tagsSortsUptoRow : OpenClaim := { program := "ytcamhpjgpjihhaa", sum := "2e4366476cef314b7e571cb3377a67b57086b3cd44cafe44be7c189873dbcb3f", func := "lodestar/lodestarlaw03.TagsSorts", spec := "tagsSorts", unfollowed := true, recurses := true, apart := false, narrowed := true }
def TagsSortsUptoSaid : Prop := tagsSortsUptoRow.holds Try.pinned (OpenSpec.upto tagsSortsSpec)

/-- 'lodestarlaw03.TagsMore', WHERE WHAT IT READS IS OF BULK AT MOST 1048576: true; the input reads as it did. -/
def tagsMoreUptoRow : OpenClaim := { program := "ytcamhpjgpjihhaa", sum := "2e4366476cef314b7e571cb3377a67b57086b3cd44cafe44be7c189873dbcb3f", func := "lodestar/lodestarlaw03.TagsMore", spec := "tagsMore", unfollowed := true, recurses := true, apart := false, narrowed := true }
def TagsMoreUptoSaid : Prop := tagsMoreUptoRow.holds Try.pinned (OpenSpec.upto tagsMoreSpec)

/-- 'lodestarlaw03.TagsSame', WHERE WHAT IT READS IS OF BULK AT MOST 1048576: true; the input reads as it did. -/
def tagsSameUptoRow : OpenClaim := { program := "ytcamhpjgpjihhaa", sum := "2e4366476cef314b7e571cb3377a67b57086b3cd44cafe44be7c189873dbcb3f", func := "lodestar/lodestarlaw03.TagsSame", spec := "tagsSame", unfollowed := true, recurses := true, apart := false, narrowed := true }
def TagsSameUptoSaid : Prop := tagsSameUptoRow.holds Try.pinned (OpenSpec.upto tagsSameSpec)

/-- 'lodestarlaw03.TagsParts', WHERE WHAT IT READS IS OF BULK AT MOST 1048576: true; the input reads as it did. -/
def tagsPartsUptoRow : OpenClaim := { program := "ytcamhpjgpjihhaa", sum := "2e4366476cef314b7e571cb3377a67b57086b3cd44cafe44be7c189873dbcb3f", func := "lodestar/lodestarlaw03.TagsParts", spec := "tagsParts", unfollowed := true, recurses := true, apart := false, narrowed := true }
def TagsPartsUptoSaid : Prop := tagsPartsUptoRow.holds Try.pinned (OpenSpec.upto tagsPartsSpec)

/-- 'lodestarlaw03.TagsChecks', WHERE WHAT IT READS IS OF BULK AT MOST 1048576: true; the input reads as it did. -/
def tagsChecksUptoRow : OpenClaim := { program := "ytcamhpjgpjihhaa", sum := "2e4366476cef314b7e571cb3377a67b57086b3cd44cafe44be7c189873dbcb3f", func := "lodestar/lodestarlaw03.TagsChecks", spec := "tagsChecks", unfollowed := true, recurses := true, apart := false, narrowed := true }
def TagsChecksUptoSaid : Prop := tagsChecksUptoRow.holds Try.pinned (OpenSpec.upto tagsChecksSpec)

/-- 'lodestarlaw03.TagsOwn', WHERE WHAT IT READS IS OF BULK AT MOST 1048576: true; the input reads as it did. -/
def tagsOwnUptoRow : OpenClaim := { program := "ytcamhpjgpjihhaa", sum := "2e4366476cef314b7e571cb3377a67b57086b3cd44cafe44be7c189873dbcb3f", func := "lodestar/lodestarlaw03.TagsOwn", spec := "tagsOwn", unfollowed := true, recurses := true, apart := false, narrowed := true }
def TagsOwnUptoSaid : Prop := tagsOwnUptoRow.holds Try.pinned (OpenSpec.upto tagsOwnSpec)

/-- 'lodestarlaw14.CursorAgain', WHERE WHAT IT READS IS OF BULK AT MOST 1048576: true; the input reads as it did. -/
def cursorAgainUptoRow : OpenClaim := { program := "ytcamhpjgpjihhaa", sum := "2e4366476cef314b7e571cb3377a67b57086b3cd44cafe44be7c189873dbcb3f", func := "lodestar/lodestarlaw14.CursorAgain", spec := "cursorAgain", apart := false, narrowed := true }
def CursorAgainUptoSaid : Prop := cursorAgainUptoRow.holds Try.pinned (OpenSpec.upto cursorAgainSpec)

/-- 'lodestarlaw14.CursorIdle', WHERE WHAT IT READS IS OF BULK AT MOST 1048576: true; the input reads as it did. -/
def cursorIdleUptoRow : OpenClaim := { program := "ytcamhpjgpjihhaa", sum := "2e4366476cef314b7e571cb3377a67b57086b3cd44cafe44be7c189873dbcb3f", func := "lodestar/lodestarlaw14.CursorIdle", spec := "cursorIdle", unfollowed := true, recurses := true, apart := false, narrowed := true }
def CursorIdleUptoSaid : Prop := cursorIdleUptoRow.holds Try.pinned (OpenSpec.upto cursorIdleSpec)

/-- 'lodestarlaw14.CursorApart', WHERE WHAT IT READS IS OF BULK AT MOST 1048576: true; the input reads as it did. -/
def cursorApartUptoRow : OpenClaim := { program := "ytcamhpjgpjihhaa", sum := "2e4366476cef314b7e571cb3377a67b57086b3cd44cafe44be7c189873dbcb3f", func := "lodestar/lodestarlaw14.CursorApart", spec := "cursorApart", unfollowed := true, recurses := true, apart := false, narrowed := true }
def CursorApartUptoSaid : Prop := cursorApartUptoRow.holds Try.pinned (OpenSpec.upto cursorApartSpec)

/-- 'lodestarlaw14.CursorPlays', WHERE WHAT IT READS IS OF BULK AT MOST 1048576: true; the input reads as it did. -/
def cursorPlaysUptoRow : OpenClaim := { program := "ytcamhpjgpjihhaa", sum := "2e4366476cef314b7e571cb3377a67b57086b3cd44cafe44be7c189873dbcb3f", func := "lodestar/lodestarlaw14.CursorPlays", spec := "cursorPlays", unfollowed := true, recurses := true, apart := false, narrowed := true }
def CursorPlaysUptoSaid : Prop := cursorPlaysUptoRow.holds Try.pinned (OpenSpec.upto cursorPlaysSpec)

/-- 'lodestarlaw14.CursorGone', WHERE WHAT IT READS IS OF BULK AT MOST 1048576: true; the input reads as it did. -/
def cursorGoneUptoRow : OpenClaim := { program := "ytcamhpjgpjihhaa", sum := "2e4366476cef314b7e571cb3377a67b57086b3cd44cafe44be7c189873dbcb3f", func := "lodestar/lodestarlaw14.CursorGone", spec := "cursorGone", unfollowed := true, recurses := true, apart := false, narrowed := true }
def CursorGoneUptoSaid : Prop := cursorGoneUptoRow.holds Try.pinned (OpenSpec.upto cursorGoneSpec)

end Rows
end Go.Proofs.Ytcamhpjgpjihhaa
