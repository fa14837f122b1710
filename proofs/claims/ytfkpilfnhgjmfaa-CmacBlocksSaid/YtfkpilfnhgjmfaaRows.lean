/-
  No cell of these rows narrows 'for every input' (looked for: loops, veiled, ifaces, maps, wideKeys, modest, calm, conditions, laid).
  DERIVED. THE GIVEN ROWS OF THIS SEAT. 13 by the template 'for every input the law returns true; each argument reads behind the call as it read before'; 0 by the template 'total and deterministic' (their statements: YtfkpilfnhgjmfaaTotals.lean).
  GIVEN WITH THE SEED: the statements are not yours to turn. If you find one false, say at which input.
  Laid BY PROGRAM, IN A SANDBOX (cutbox-rows.mjs): the forced cells as the released guide's own fill.sh prints them over the translation cc5ed2547206b2f7… (all of the seat's roots in one cut). By AI agents, Wed Nov 11 2026. No macro, syntax, notation, axiom, sorry.
-/
import Derived.Test.YtfkpilfnhgjmfaaChecked
import GoSem.Claim
import GoSem.ClaimJoined
import GoSem.ClaimMapViews
import Derived.JoinedTies
import Derived.KernelRfl
namespace Go.Proofs.Ytfkpilfnhgjmfaa
/- THE CELL 'sum', in the pinned program and in every row, IS THE sha256 OF THE DUMP (.gsa) THAT YtfkpilfnhgjmfaaProg.lean LOADS. Nothing in Lean hashes anything: it is a label: what it is worth is what the hold of that sum in a sandbox is worth. -/
noncomputable def Try.pinned : Pinned := { name := "ytfkpilfnhgjmfaa", sum := "cc5ed2547206b2f7e2c9c28bf775737ec136811ae0c8b1210029cb623b645d73", checked := Try.checked }
namespace Rows
def none {H : Type} : Left H := { results := [], args := [] }

/-- 'pursuivantlaw03.AesProducts': WHATEVER THE INPUT: true; the input reads as it did. -/
def aesProductsSpec : ChangeSpec := { name := "aesProducts", fn := fun _ => fun
  | [d1, d2] => { results := [.lit (.bool true)], args := [d1, d2] }
  | _ => none }
def aesProductsRow : OpenClaim := { program := "ytfkpilfnhgjmfaa", sum := "cc5ed2547206b2f7e2c9c28bf775737ec136811ae0c8b1210029cb623b645d73", func := "pursuivant/pursuivantlaw03.AesProducts", spec := "aesProducts", unfollowed := true, recurses := true, apart := false }
def AesProductsSaid : Prop := aesProductsRow.holds Try.pinned (OpenSpec.ofChange aesProductsSpec)

/-- ITS FALSE NEIGHBOUR: 'it returns false'. Refute it at one input. -/
def aesProductsWrong : ChangeSpec := { name := "aesProducts", fn := fun _ => fun
  | [d1, d2] => { results := [.lit (.bool false)], args := [d1, d2] }
  | _ => none }
def AesProductsWrongFalsely : Prop := aesProductsRow.holds Try.pinned (OpenSpec.ofChange aesProductsWrong)

/-- 'pursuivantlaw03.AesBoxes': WHATEVER THE INPUT: true; the input reads as it did. -/
def aesBoxesSpec : ChangeSpec := { name := "aesBoxes", fn := fun _ => fun
  | [] => { results := [.lit (.bool true)], args := [] }
  | _ => none }
def aesBoxesRow : OpenClaim := { program := "ytfkpilfnhgjmfaa", sum := "cc5ed2547206b2f7e2c9c28bf775737ec136811ae0c8b1210029cb623b645d73", func := "pursuivant/pursuivantlaw03.AesBoxes", spec := "aesBoxes", unfollowed := true, recurses := true, apart := false }
def AesBoxesSaid : Prop := aesBoxesRow.holds Try.pinned (OpenSpec.ofChange aesBoxesSpec)

/-- ITS FALSE NEIGHBOUR: 'it returns false'. Refute it at one input. -/
def aesBoxesWrong : ChangeSpec := { name := "aesBoxes", fn := fun _ => fun
  | [] => { results := [.lit (.bool false)], args := [] }
  | _ => none }
def AesBoxesWrongFalsely : Prop := aesBoxesRow.holds Try.pinned (OpenSpec.ofChange aesBoxesWrong)

/-- 'pursuivantlaw03.AesMixes': WHATEVER THE INPUT: true; the input reads as it did. -/
def aesMixesSpec : ChangeSpec := { name := "aesMixes", fn := fun _ => fun
  | [d] => { results := [.lit (.bool true)], args := [d] }
  | _ => none }
def aesMixesRow : OpenClaim := { program := "ytfkpilfnhgjmfaa", sum := "cc5ed2547206b2f7e2c9c28bf775737ec136811ae0c8b1210029cb623b645d73", func := "pursuivant/pursuivantlaw03.AesMixes", spec := "aesMixes", unfollowed := true, recurses := true, apart := false }
def AesMixesSaid : Prop := aesMixesRow.holds Try.pinned (OpenSpec.ofChange aesMixesSpec)

/-- ITS FALSE NEIGHBOUR: 'it returns false'. Refute it at one input. -/
def aesMixesWrong : ChangeSpec := { name := "aesMixes", fn := fun _ => fun
  | [d] => { results := [.lit (.bool false)], args := [d] }
  | _ => none }
def AesMixesWrongFalsely : Prop := aesMixesRow.holds Try.pinned (OpenSpec.ofChange aesMixesWrong)

/-- 'pursuivantlaw03.AesMakes': WHATEVER THE INPUT: true; the input reads as it did. -/
def aesMakesSpec : ChangeSpec := { name := "aesMakes", fn := fun _ => fun
  | [d1, d2, d3] => { results := [.lit (.bool true)], args := [d1, d2, d3] }
  | _ => none }
def aesMakesRow : OpenClaim := { program := "ytfkpilfnhgjmfaa", sum := "cc5ed2547206b2f7e2c9c28bf775737ec136811ae0c8b1210029cb623b645d73", func := "pursuivant/pursuivantlaw03.AesMakes", spec := "aesMakes", unfollowed := true, recurses := true, apart := false }
def AesMakesSaid : Prop := aesMakesRow.holds Try.pinned (OpenSpec.ofChange aesMakesSpec)

/-- ITS FALSE NEIGHBOUR: 'it returns false'. Refute it at one input. -/
def aesMakesWrong : ChangeSpec := { name := "aesMakes", fn := fun _ => fun
  | [d1, d2, d3] => { results := [.lit (.bool false)], args := [d1, d2, d3] }
  | _ => none }
def AesMakesWrongFalsely : Prop := aesMakesRow.holds Try.pinned (OpenSpec.ofChange aesMakesWrong)

/-- 'pursuivantlaw03.AesMany': WHATEVER THE INPUT: true; the input reads as it did. -/
def aesManySpec : ChangeSpec := { name := "aesMany", fn := fun _ => fun
  | [d1, d2, d3] => { results := [.lit (.bool true)], args := [d1, d2, d3] }
  | _ => none }
def aesManyRow : OpenClaim := { program := "ytfkpilfnhgjmfaa", sum := "cc5ed2547206b2f7e2c9c28bf775737ec136811ae0c8b1210029cb623b645d73", func := "pursuivant/pursuivantlaw03.AesMany", spec := "aesMany", unfollowed := true, recurses := true, apart := false }
def AesManySaid : Prop := aesManyRow.holds Try.pinned (OpenSpec.ofChange aesManySpec)

/-- ITS FALSE NEIGHBOUR: 'it returns false'. Refute it at one input. -/
def aesManyWrong : ChangeSpec := { name := "aesMany", fn := fun _ => fun
  | [d1, d2, d3] => { results := [.lit (.bool false)], args := [d1, d2, d3] }
  | _ => none }
def AesManyWrongFalsely : Prop := aesManyRow.holds Try.pinned (OpenSpec.ofChange aesManyWrong)

/-- 'pursuivantlaw03.AesHolds': WHATEVER THE INPUT: true; the input reads as it did. -/
def aesHoldsSpec : ChangeSpec := { name := "aesHolds", fn := fun _ => fun
  | [d1, d2, d3, d4, d5] => { results := [.lit (.bool true)], args := [d1, d2, d3, d4, d5] }
  | _ => none }
def aesHoldsRow : OpenClaim := { program := "ytfkpilfnhgjmfaa", sum := "cc5ed2547206b2f7e2c9c28bf775737ec136811ae0c8b1210029cb623b645d73", func := "pursuivant/pursuivantlaw03.AesHolds", spec := "aesHolds", unfollowed := true, recurses := true, apart := false }
def AesHoldsSaid : Prop := aesHoldsRow.holds Try.pinned (OpenSpec.ofChange aesHoldsSpec)

/-- ITS FALSE NEIGHBOUR: 'it returns false'. Refute it at one input. -/
def aesHoldsWrong : ChangeSpec := { name := "aesHolds", fn := fun _ => fun
  | [d1, d2, d3, d4, d5] => { results := [.lit (.bool false)], args := [d1, d2, d3, d4, d5] }
  | _ => none }
def AesHoldsWrongFalsely : Prop := aesHoldsRow.holds Try.pinned (OpenSpec.ofChange aesHoldsWrong)

/-- 'pursuivantlaw03.AesKeys': WHATEVER THE INPUT: true; the input reads as it did. -/
def aesKeysSpec : ChangeSpec := { name := "aesKeys", fn := fun _ => fun
  | [d] => { results := [.lit (.bool true)], args := [d] }
  | _ => none }
def aesKeysRow : OpenClaim := { program := "ytfkpilfnhgjmfaa", sum := "cc5ed2547206b2f7e2c9c28bf775737ec136811ae0c8b1210029cb623b645d73", func := "pursuivant/pursuivantlaw03.AesKeys", spec := "aesKeys", unfollowed := true, recurses := true, apart := false }
def AesKeysSaid : Prop := aesKeysRow.holds Try.pinned (OpenSpec.ofChange aesKeysSpec)

/-- ITS FALSE NEIGHBOUR: 'it returns false'. Refute it at one input. -/
def aesKeysWrong : ChangeSpec := { name := "aesKeys", fn := fun _ => fun
  | [d] => { results := [.lit (.bool false)], args := [d] }
  | _ => none }
def AesKeysWrongFalsely : Prop := aesKeysRow.holds Try.pinned (OpenSpec.ofChange aesKeysWrong)

/-- 'pursuivantlaw04.CmacDoubles': WHATEVER THE INPUT: true; the input reads as it did. -/
def cmacDoublesSpec : ChangeSpec := { name := "cmacDoubles", fn := fun _ => fun
  | [d] => { results := [.lit (.bool true)], args := [d] }
  | _ => none }
def cmacDoublesRow : OpenClaim := { program := "ytfkpilfnhgjmfaa", sum := "cc5ed2547206b2f7e2c9c28bf775737ec136811ae0c8b1210029cb623b645d73", func := "pursuivant/pursuivantlaw04.CmacDoubles", spec := "cmacDoubles", unfollowed := true, recurses := true, apart := false }
def CmacDoublesSaid : Prop := cmacDoublesRow.holds Try.pinned (OpenSpec.ofChange cmacDoublesSpec)

/-- ITS FALSE NEIGHBOUR: 'it returns false'. Refute it at one input. -/
def cmacDoublesWrong : ChangeSpec := { name := "cmacDoubles", fn := fun _ => fun
  | [d] => { results := [.lit (.bool false)], args := [d] }
  | _ => none }
def CmacDoublesWrongFalsely : Prop := cmacDoublesRow.holds Try.pinned (OpenSpec.ofChange cmacDoublesWrong)

/-- 'pursuivantlaw04.CmacBlocks': WHATEVER THE INPUT: true; the input reads as it did. -/
def cmacBlocksSpec : ChangeSpec := { name := "cmacBlocks", fn := fun _ => fun
  | [d] => { results := [.lit (.bool true)], args := [d] }
  | _ => none }
def cmacBlocksRow : OpenClaim := { program := "ytfkpilfnhgjmfaa", sum := "cc5ed2547206b2f7e2c9c28bf775737ec136811ae0c8b1210029cb623b645d73", func := "pursuivant/pursuivantlaw04.CmacBlocks", spec := "cmacBlocks", unfollowed := true, recurses := true, apart := false }
def CmacBlocksSaid : Prop := cmacBlocksRow.holds Try.pinned (OpenSpec.ofChange cmacBlocksSpec)

/-- ITS FALSE NEIGHBOUR: 'it returns false'. Refute it at one input. -/
def cmacBlocksWrong : ChangeSpec := { name := "cmacBlocks", fn := fun _ => fun
  | [d] => { results := [.lit (.bool false)], args := [d] }
  | _ => none }
def CmacBlocksWrongFalsely : Prop := cmacBlocksRow.holds Try.pinned (OpenSpec.ofChange cmacBlocksWrong)

/-- 'pursuivantlaw04.CmacTags': WHATEVER THE INPUT: true; the input reads as it did. -/
def cmacTagsSpec : ChangeSpec := { name := "cmacTags", fn := fun _ => fun
  | [d1, d2] => { results := [.lit (.bool true)], args := [d1, d2] }
  | _ => none }
def cmacTagsRow : OpenClaim := { program := "ytfkpilfnhgjmfaa", sum := "cc5ed2547206b2f7e2c9c28bf775737ec136811ae0c8b1210029cb623b645d73", func := "pursuivant/pursuivantlaw04.CmacTags", spec := "cmacTags", unfollowed := true, recurses := true, apart := false }
def CmacTagsSaid : Prop := cmacTagsRow.holds Try.pinned (OpenSpec.ofChange cmacTagsSpec)

/-- ITS FALSE NEIGHBOUR: 'it returns false'. Refute it at one input. -/
def cmacTagsWrong : ChangeSpec := { name := "cmacTags", fn := fun _ => fun
  | [d1, d2] => { results := [.lit (.bool false)], args := [d1, d2] }
  | _ => none }
def CmacTagsWrongFalsely : Prop := cmacTagsRow.holds Try.pinned (OpenSpec.ofChange cmacTagsWrong)

/-- 'pursuivantlaw04.CmacParts': WHATEVER THE INPUT: true; the input reads as it did. -/
def cmacPartsSpec : ChangeSpec := { name := "cmacParts", fn := fun _ => fun
  | [d1, d2] => { results := [.lit (.bool true)], args := [d1, d2] }
  | _ => none }
def cmacPartsRow : OpenClaim := { program := "ytfkpilfnhgjmfaa", sum := "cc5ed2547206b2f7e2c9c28bf775737ec136811ae0c8b1210029cb623b645d73", func := "pursuivant/pursuivantlaw04.CmacParts", spec := "cmacParts", unfollowed := true, recurses := true, apart := false }
def CmacPartsSaid : Prop := cmacPartsRow.holds Try.pinned (OpenSpec.ofChange cmacPartsSpec)

/-- ITS FALSE NEIGHBOUR: 'it returns false'. Refute it at one input. -/
def cmacPartsWrong : ChangeSpec := { name := "cmacParts", fn := fun _ => fun
  | [d1, d2] => { results := [.lit (.bool false)], args := [d1, d2] }
  | _ => none }
def CmacPartsWrongFalsely : Prop := cmacPartsRow.holds Try.pinned (OpenSpec.ofChange cmacPartsWrong)

/-- 'pursuivantlaw04.CmacHolds': WHATEVER THE INPUT: true; the input reads as it did. -/
def cmacHoldsSpec : ChangeSpec := { name := "cmacHolds", fn := fun _ => fun
  | [d1, d2, d3, d4, d5] => { results := [.lit (.bool true)], args := [d1, d2, d3, d4, d5] }
  | _ => none }
def cmacHoldsRow : OpenClaim := { program := "ytfkpilfnhgjmfaa", sum := "cc5ed2547206b2f7e2c9c28bf775737ec136811ae0c8b1210029cb623b645d73", func := "pursuivant/pursuivantlaw04.CmacHolds", spec := "cmacHolds", unfollowed := true, recurses := true, apart := false }
def CmacHoldsSaid : Prop := cmacHoldsRow.holds Try.pinned (OpenSpec.ofChange cmacHoldsSpec)

/-- ITS FALSE NEIGHBOUR: 'it returns false'. Refute it at one input. -/
def cmacHoldsWrong : ChangeSpec := { name := "cmacHolds", fn := fun _ => fun
  | [d1, d2, d3, d4, d5] => { results := [.lit (.bool false)], args := [d1, d2, d3, d4, d5] }
  | _ => none }
def CmacHoldsWrongFalsely : Prop := cmacHoldsRow.holds Try.pinned (OpenSpec.ofChange cmacHoldsWrong)

/-- 'pursuivantlaw04.CmacPlays': WHATEVER THE INPUT: true; the input reads as it did. -/
def cmacPlaysSpec : ChangeSpec := { name := "cmacPlays", fn := fun _ => fun
  | [d1, d2, d3] => { results := [.lit (.bool true)], args := [d1, d2, d3] }
  | _ => none }
def cmacPlaysRow : OpenClaim := { program := "ytfkpilfnhgjmfaa", sum := "cc5ed2547206b2f7e2c9c28bf775737ec136811ae0c8b1210029cb623b645d73", func := "pursuivant/pursuivantlaw04.CmacPlays", spec := "cmacPlays", unfollowed := true, recurses := true, apart := false }
def CmacPlaysSaid : Prop := cmacPlaysRow.holds Try.pinned (OpenSpec.ofChange cmacPlaysSpec)

/-- ITS FALSE NEIGHBOUR: 'it returns false'. Refute it at one input. -/
def cmacPlaysWrong : ChangeSpec := { name := "cmacPlays", fn := fun _ => fun
  | [d1, d2, d3] => { results := [.lit (.bool false)], args := [d1, d2, d3] }
  | _ => none }
def CmacPlaysWrongFalsely : Prop := cmacPlaysRow.holds Try.pinned (OpenSpec.ofChange cmacPlaysWrong)

/- THE SECOND FORM. 'bulk': how many values and letters a reading holds, each counted each time it is reached (what is shared counts as often as it is met; a slice's spare places count too). A statement '..UptoSaid' is the law's where the arguments, and the package variables that the reading takes, are together of bulk at most 1048576: NARROWER than '..Said'. Prove '..Said' where nothing that the law and all that it calls make is longer than what came in: it says more and counts as full. Else prove '..UptoSaid'. A law counts once. -/
mutual
def uptoBulk {H : Type} : DataW H → Nat
  | .lit (.string bytes) => bytes.length + 1
  | .lit _ => 1
  | .nil => 1
  | .ptr d => uptoBulk d + 1
  | .slice elems spare => uptoBulkAll elems + uptoBulkAll spare + 1
  | .agg parts => uptoBulkAll parts + 1
  | .iface _ d => uptoBulk d + 1
  | .map entries => uptoBulkEntries entries + 1
  | .held _ => 1
def uptoBulkAll {H : Type} : List (DataW H) → Nat
  | [] => 0
  | d :: r => uptoBulk d + uptoBulkAll r
def uptoBulkEntries {H : Type} : List (Lit × DataW H) → Nat
  | [] => 0
  | x :: r => uptoBulkEntry x + uptoBulkEntries r
def uptoBulkEntry {H : Type} : Lit × DataW H → Nat
  | (.string bytes, d) => bytes.length + uptoBulk d + 1
  | (_, d) => uptoBulk d + 1
 end
def uptoSmall : (H : Type) → List (DataW H) → Bool := fun _ ds => decide (uptoBulkAll ds ≤ 1048576)
def OpenSpec.upto (s : _root_.Go.ChangeSpec) : _root_.Go.OpenSpec := { _root_.Go.OpenSpec.ofChange s with cond := some uptoSmall }

/-- 'pursuivantlaw03.AesProducts', WHERE WHAT IT READS IS OF BULK AT MOST 1048576: true; the input reads as it did. -/
def aesProductsUptoRow : OpenClaim := { program := "ytfkpilfnhgjmfaa", sum := "cc5ed2547206b2f7e2c9c28bf775737ec136811ae0c8b1210029cb623b645d73", func := "pursuivant/pursuivantlaw03.AesProducts", spec := "aesProducts", unfollowed := true, recurses := true, apart := false, narrowed := true }
def AesProductsUptoSaid : Prop := aesProductsUptoRow.holds Try.pinned (OpenSpec.upto aesProductsSpec)

/-- 'pursuivantlaw03.AesBoxes', WHERE WHAT IT READS IS OF BULK AT MOST 1048576: true; the input reads as it did. -/
def aesBoxesUptoRow : OpenClaim := { program := "ytfkpilfnhgjmfaa", sum := "cc5ed2547206b2f7e2c9c28bf775737ec136811ae0c8b1210029cb623b645d73", func := "pursuivant/pursuivantlaw03.AesBoxes", spec := "aesBoxes", unfollowed := true, recurses := true, apart := false, narrowed := true }
def AesBoxesUptoSaid : Prop := aesBoxesUptoRow.holds Try.pinned (OpenSpec.upto aesBoxesSpec)

/-- 'pursuivantlaw03.AesMixes', WHERE WHAT IT READS IS OF BULK AT MOST 1048576: true; the input reads as it did. -/
def aesMixesUptoRow : OpenClaim := { program := "ytfkpilfnhgjmfaa", sum := "cc5ed2547206b2f7e2c9c28bf775737ec136811ae0c8b1210029cb623b645d73", func := "pursuivant/pursuivantlaw03.AesMixes", spec := "aesMixes", unfollowed := true, recurses := true, apart := false, narrowed := true }
def AesMixesUptoSaid : Prop := aesMixesUptoRow.holds Try.pinned (OpenSpec.upto aesMixesSpec)

/-- 'pursuivantlaw03.AesMakes', WHERE WHAT IT READS IS OF BULK AT MOST 1048576: true; the input reads as it did. -/
def aesMakesUptoRow : OpenClaim := { program := "ytfkpilfnhgjmfaa", sum := "cc5ed2547206b2f7e2c9c28bf775737ec136811ae0c8b1210029cb623b645d73", func := "pursuivant/pursuivantlaw03.AesMakes", spec := "aesMakes", unfollowed := true, recurses := true, apart := false, narrowed := true }
def AesMakesUptoSaid : Prop := aesMakesUptoRow.holds Try.pinned (OpenSpec.upto aesMakesSpec)

/-- 'pursuivantlaw03.AesMany', WHERE WHAT IT READS IS OF BULK AT MOST 1048576: true; the input reads as it did. -/
def aesManyUptoRow : OpenClaim := { program := "ytfkpilfnhgjmfaa", sum := "cc5ed2547206b2f7e2c9c28bf775737ec136811ae0c8b1210029cb623b645d73", func := "pursuivant/pursuivantlaw03.AesMany", spec := "aesMany", unfollowed := true, recurses := true, apart := false, narrowed := true }
def AesManyUptoSaid : Prop := aesManyUptoRow.holds Try.pinned (OpenSpec.upto aesManySpec)

/-- 'pursuivantlaw03.AesHolds', WHERE WHAT IT READS IS OF BULK AT MOST 1048576: true; the input reads as it did. -/
def aesHoldsUptoRow : OpenClaim := { program := "ytfkpilfnhgjmfaa", sum := "cc5ed2547206b2f7e2c9c28bf775737ec136811ae0c8b1210029cb623b645d73", func := "pursuivant/pursuivantlaw03.AesHolds", spec := "aesHolds", unfollowed := true, recurses := true, apart := false, narrowed := true }
def AesHoldsUptoSaid : Prop := aesHoldsUptoRow.holds Try.pinned (OpenSpec.upto aesHoldsSpec)

/-- 'pursuivantlaw03.AesKeys', WHERE WHAT IT READS IS OF BULK AT MOST 1048576: true; the input reads as it did. -/
def aesKeysUptoRow : OpenClaim := { program := "ytfkpilfnhgjmfaa", sum := "cc5ed2547206b2f7e2c9c28bf775737ec136811ae0c8b1210029cb623b645d73", func := "pursuivant/pursuivantlaw03.AesKeys", spec := "aesKeys", unfollowed := true, recurses := true, apart := false, narrowed := true }
def AesKeysUptoSaid : Prop := aesKeysUptoRow.holds Try.pinned (OpenSpec.upto aesKeysSpec)

/-- 'pursuivantlaw04.CmacDoubles', WHERE WHAT IT READS IS OF BULK AT MOST 1048576: true; the input reads as it did. -/
def cmacDoublesUptoRow : OpenClaim := { program := "ytfkpilfnhgjmfaa", sum := "cc5ed2547206b2f7e2c9c28bf775737ec136811ae0c8b1210029cb623b645d73", func := "pursuivant/pursuivantlaw04.CmacDoubles", spec := "cmacDoubles", unfollowed := true, recurses := true, apart := false, narrowed := true }
def CmacDoublesUptoSaid : Prop := cmacDoublesUptoRow.holds Try.pinned (OpenSpec.upto cmacDoublesSpec)

/-- 'pursuivantlaw04.CmacBlocks', WHERE WHAT IT READS IS OF BULK AT MOST 1048576: true; the input reads as it did. -/
def cmacBlocksUptoRow : OpenClaim := { program := "ytfkpilfnhgjmfaa", sum := "cc5ed2547206b2f7e2c9c28bf775737ec136811ae0c8b1210029cb623b645d73", func := "pursuivant/pursuivantlaw04.CmacBlocks", spec := "cmacBlocks", unfollowed := true, recurses := true, apart := false, narrowed := true }
def CmacBlocksUptoSaid : Prop := cmacBlocksUptoRow.holds Try.pinned (OpenSpec.upto cmacBlocksSpec)

/-- 'pursuivantlaw04.CmacTags', WHERE WHAT IT READS IS OF BULK AT MOST 1048576: true; the input reads as it did. -/
def cmacTagsUptoRow : OpenClaim := { program := "ytfkpilfnhgjmfaa", sum := "cc5ed2547206b2f7e2c9c28bf775737ec136811ae0c8b1210029cb623b645d73", func := "pursuivant/pursuivantlaw04.CmacTags", spec := "cmacTags", unfollowed := true, recurses := true, apart := false, narrowed := true }
def CmacTagsUptoSaid : Prop := cmacTagsUptoRow.holds Try.pinned (OpenSpec.upto cmacTagsSpec)

/-- 'pursuivantlaw04.CmacParts', WHERE WHAT IT READS IS OF BULK AT MOST 1048576: true; the input reads as it did. -/
def cmacPartsUptoRow : OpenClaim := { program := "ytfkpilfnhgjmfaa", sum := "cc5ed2547206b2f7e2c9c28bf775737ec136811ae0c8b1210029cb623b645d73", func := "pursuivant/pursuivantlaw04.CmacParts", spec := "cmacParts", unfollowed := true, recurses := true, apart := false, narrowed := true }
def CmacPartsUptoSaid : Prop := cmacPartsUptoRow.holds Try.pinned (OpenSpec.upto cmacPartsSpec)

/-- 'pursuivantlaw04.CmacHolds', WHERE WHAT IT READS IS OF BULK AT MOST 1048576: true; the input reads as it did. -/
def cmacHoldsUptoRow : OpenClaim := { program := "ytfkpilfnhgjmfaa", sum := "cc5ed2547206b2f7e2c9c28bf775737ec136811ae0c8b1210029cb623b645d73", func := "pursuivant/pursuivantlaw04.CmacHolds", spec := "cmacHolds", unfollowed := true, recurses := true, apart := false, narrowed := true }
def CmacHoldsUptoSaid : Prop := cmacHoldsUptoRow.holds Try.pinned (OpenSpec.upto cmacHoldsSpec)

/-- 'pursuivantlaw04.CmacPlays', WHERE WHAT IT READS IS OF BULK AT MOST 1048576: true; the input reads as it did. -/
def cmacPlaysUptoRow : OpenClaim := { program := "ytfkpilfnhgjmfaa", sum := "cc5ed2547206b2f7e2c9c28bf775737ec136811ae0c8b1210029cb623b645d73", func := "pursuivant/pursuivantlaw04.CmacPlays", spec := "cmacPlays", unfollowed := true, recurses := true, apart := false, narrowed := true }
def CmacPlaysUptoSaid : Prop := cmacPlaysUptoRow.holds Try.pinned (OpenSpec.upto cmacPlaysSpec)

end Rows
end Go.Proofs.Ytfkpilfnhgjmfaa
