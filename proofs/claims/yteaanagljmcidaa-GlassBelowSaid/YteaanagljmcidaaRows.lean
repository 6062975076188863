/-
  No cell of these rows narrows 'for every input' (looked for: loops, veiled, ifaces, maps, wideKeys, modest, calm, conditions, laid).
  DERIVED. THE GIVEN ROWS OF THIS SEAT. 22 by the template 'for every input the law returns true; each argument reads behind the call as it read before'; 0 by the template 'total and deterministic' (their statements: YteaanagljmcidaaTotals.lean).
  GIVEN WITH THE SEED: the statements are not yours to turn. If you find one false, say at which input.
  Laid BY PROGRAM, IN A SANDBOX (cutbox-rows.mjs): the forced cells as the released guide's own fill.sh prints them over the translation 932db4f63da735a7… (all of the seat's roots in one cut). By AI agents, Wed Nov 11 2026. No macro, syntax, notation, axiom, sorry.
-/
import Derived.Test.YteaanagljmcidaaChecked
import GoSem.Claim
import GoSem.ClaimJoined
import GoSem.ClaimMapViews
import Derived.JoinedTies
import Derived.KernelRfl
namespace Go.Proofs.Yteaanagljmcidaa
/- THE CELL 'sum', in the pinned program and in every row, IS THE sha256 OF THE DUMP (.gsa) THAT YteaanagljmcidaaProg.lean LOADS. Nothing in Lean hashes anything: it is a label: what it is worth is what the hold of that sum in a sandbox is worth. -/
noncomputable def Try.pinned : Pinned := { name := "yteaanagljmcidaa", sum := "932db4f63da735a7f0f720ac42774457e8f4a28f831d9d3381ce842c602cedde", checked := Try.checked }
namespace Rows
def none {H : Type} : Left H := { results := [], args := [] }

/-- 'bartizanlaw08.SkipRows': WHATEVER THE INPUT: true; the input reads as it did. -/
def skipRowsSpec : ChangeSpec := { name := "skipRows", fn := fun _ => fun
  | [d] => { results := [.lit (.bool true)], args := [d] }
  | _ => none }
def skipRowsRow : OpenClaim := { program := "yteaanagljmcidaa", sum := "932db4f63da735a7f0f720ac42774457e8f4a28f831d9d3381ce842c602cedde", func := "bartizan/bartizanlaw08.SkipRows", spec := "skipRows", inPlace := ["internal/bytealg.Compare"], unfollowed := true, recurses := true, apart := false }
def SkipRowsSaid : Prop := skipRowsRow.holds Try.pinned (OpenSpec.ofChange skipRowsSpec)

/-- ITS FALSE NEIGHBOUR: 'it returns false'. Refute it at one input. -/
def skipRowsWrong : ChangeSpec := { name := "skipRows", fn := fun _ => fun
  | [d] => { results := [.lit (.bool false)], args := [d] }
  | _ => none }
def SkipRowsWrongFalsely : Prop := skipRowsRow.holds Try.pinned (OpenSpec.ofChange skipRowsWrong)

/-- 'bartizanlaw08.SkipHeights': WHATEVER THE INPUT: true; the input reads as it did. -/
def skipHeightsSpec : ChangeSpec := { name := "skipHeights", fn := fun _ => fun
  | [d1, d2] => { results := [.lit (.bool true)], args := [d1, d2] }
  | _ => none }
def skipHeightsRow : OpenClaim := { program := "yteaanagljmcidaa", sum := "932db4f63da735a7f0f720ac42774457e8f4a28f831d9d3381ce842c602cedde", func := "bartizan/bartizanlaw08.SkipHeights", spec := "skipHeights", inPlace := ["internal/bytealg.Compare"], unfollowed := true, recurses := true, apart := false }
def SkipHeightsSaid : Prop := skipHeightsRow.holds Try.pinned (OpenSpec.ofChange skipHeightsSpec)

/-- ITS FALSE NEIGHBOUR: 'it returns false'. Refute it at one input. -/
def skipHeightsWrong : ChangeSpec := { name := "skipHeights", fn := fun _ => fun
  | [d1, d2] => { results := [.lit (.bool false)], args := [d1, d2] }
  | _ => none }
def SkipHeightsWrongFalsely : Prop := skipHeightsRow.holds Try.pinned (OpenSpec.ofChange skipHeightsWrong)

/-- 'bartizanlaw08.SkipWalks': WHATEVER THE INPUT: true; the input reads as it did. -/
def skipWalksSpec : ChangeSpec := { name := "skipWalks", fn := fun _ => fun
  | [d] => { results := [.lit (.bool true)], args := [d] }
  | _ => none }
def skipWalksRow : OpenClaim := { program := "yteaanagljmcidaa", sum := "932db4f63da735a7f0f720ac42774457e8f4a28f831d9d3381ce842c602cedde", func := "bartizan/bartizanlaw08.SkipWalks", spec := "skipWalks", inPlace := ["internal/bytealg.Compare"], unfollowed := true, recurses := true, apart := false }
def SkipWalksSaid : Prop := skipWalksRow.holds Try.pinned (OpenSpec.ofChange skipWalksSpec)

/-- ITS FALSE NEIGHBOUR: 'it returns false'. Refute it at one input. -/
def skipWalksWrong : ChangeSpec := { name := "skipWalks", fn := fun _ => fun
  | [d] => { results := [.lit (.bool false)], args := [d] }
  | _ => none }
def SkipWalksWrongFalsely : Prop := skipWalksRow.holds Try.pinned (OpenSpec.ofChange skipWalksWrong)

/-- 'bartizanlaw08.SkipApart': WHATEVER THE INPUT: true; the input reads as it did. -/
def skipApartSpec : ChangeSpec := { name := "skipApart", fn := fun _ => fun
  | [d] => { results := [.lit (.bool true)], args := [d] }
  | _ => none }
def skipApartRow : OpenClaim := { program := "yteaanagljmcidaa", sum := "932db4f63da735a7f0f720ac42774457e8f4a28f831d9d3381ce842c602cedde", func := "bartizan/bartizanlaw08.SkipApart", spec := "skipApart", inPlace := ["internal/bytealg.Compare"], unfollowed := true, recurses := true, apart := false }
def SkipApartSaid : Prop := skipApartRow.holds Try.pinned (OpenSpec.ofChange skipApartSpec)

/-- ITS FALSE NEIGHBOUR: 'it returns false'. Refute it at one input. -/
def skipApartWrong : ChangeSpec := { name := "skipApart", fn := fun _ => fun
  | [d] => { results := [.lit (.bool false)], args := [d] }
  | _ => none }
def SkipApartWrongFalsely : Prop := skipApartRow.holds Try.pinned (OpenSpec.ofChange skipApartWrong)

/-- 'bartizanlaw08.SkipTwice': WHATEVER THE INPUT: true; the input reads as it did. -/
def skipTwiceSpec : ChangeSpec := { name := "skipTwice", fn := fun _ => fun
  | [d1, d2, d3] => { results := [.lit (.bool true)], args := [d1, d2, d3] }
  | _ => none }
def skipTwiceRow : OpenClaim := { program := "yteaanagljmcidaa", sum := "932db4f63da735a7f0f720ac42774457e8f4a28f831d9d3381ce842c602cedde", func := "bartizan/bartizanlaw08.SkipTwice", spec := "skipTwice", inPlace := ["internal/bytealg.Compare"], unfollowed := true, recurses := true, apart := false }
def SkipTwiceSaid : Prop := skipTwiceRow.holds Try.pinned (OpenSpec.ofChange skipTwiceSpec)

/-- ITS FALSE NEIGHBOUR: 'it returns false'. Refute it at one input. -/
def skipTwiceWrong : ChangeSpec := { name := "skipTwice", fn := fun _ => fun
  | [d1, d2, d3] => { results := [.lit (.bool false)], args := [d1, d2, d3] }
  | _ => none }
def SkipTwiceWrongFalsely : Prop := skipTwiceRow.holds Try.pinned (OpenSpec.ofChange skipTwiceWrong)

/-- 'bartizanlaw08.SkipPlays': WHATEVER THE INPUT: true; the input reads as it did. -/
def skipPlaysSpec : ChangeSpec := { name := "skipPlays", fn := fun _ => fun
  | [d1, d2, d3] => { results := [.lit (.bool true)], args := [d1, d2, d3] }
  | _ => none }
def skipPlaysRow : OpenClaim := { program := "yteaanagljmcidaa", sum := "932db4f63da735a7f0f720ac42774457e8f4a28f831d9d3381ce842c602cedde", func := "bartizan/bartizanlaw08.SkipPlays", spec := "skipPlays", inPlace := ["internal/bytealg.Compare"], unfollowed := true, recurses := true, apart := false }
def SkipPlaysSaid : Prop := skipPlaysRow.holds Try.pinned (OpenSpec.ofChange skipPlaysSpec)

/-- ITS FALSE NEIGHBOUR: 'it returns false'. Refute it at one input. -/
def skipPlaysWrong : ChangeSpec := { name := "skipPlays", fn := fun _ => fun
  | [d1, d2, d3] => { results := [.lit (.bool false)], args := [d1, d2, d3] }
  | _ => none }
def SkipPlaysWrongFalsely : Prop := skipPlaysRow.holds Try.pinned (OpenSpec.ofChange skipPlaysWrong)

/-- 'bartizanlaw14.MergePlays': WHATEVER THE INPUT: true; the input reads as it did. -/
def mergePlaysSpec : ChangeSpec := { name := "mergePlays", fn := fun _ => fun
  | [d1, d2, d3] => { results := [.lit (.bool true)], args := [d1, d2, d3] }
  | _ => none }
def mergePlaysRow : OpenClaim := { program := "yteaanagljmcidaa", sum := "932db4f63da735a7f0f720ac42774457e8f4a28f831d9d3381ce842c602cedde", func := "bartizan/bartizanlaw14.MergePlays", spec := "mergePlays", inPlace := ["internal/bytealg.Compare"], unfollowed := true, recurses := true, apart := false }
def MergePlaysSaid : Prop := mergePlaysRow.holds Try.pinned (OpenSpec.ofChange mergePlaysSpec)

/-- ITS FALSE NEIGHBOUR: 'it returns false'. Refute it at one input. -/
def mergePlaysWrong : ChangeSpec := { name := "mergePlays", fn := fun _ => fun
  | [d1, d2, d3] => { results := [.lit (.bool false)], args := [d1, d2, d3] }
  | _ => none }
def MergePlaysWrongFalsely : Prop := mergePlaysRow.holds Try.pinned (OpenSpec.ofChange mergePlaysWrong)

/-- 'bartizanlaw14.MergeTurned': WHATEVER THE INPUT: true; the input reads as it did. -/
def mergeTurnedSpec : ChangeSpec := { name := "mergeTurned", fn := fun _ => fun
  | [d] => { results := [.lit (.bool true)], args := [d] }
  | _ => none }
def mergeTurnedRow : OpenClaim := { program := "yteaanagljmcidaa", sum := "932db4f63da735a7f0f720ac42774457e8f4a28f831d9d3381ce842c602cedde", func := "bartizan/bartizanlaw14.MergeTurned", spec := "mergeTurned", inPlace := ["internal/bytealg.Compare"], unfollowed := true, recurses := true, apart := false }
def MergeTurnedSaid : Prop := mergeTurnedRow.holds Try.pinned (OpenSpec.ofChange mergeTurnedSpec)

/-- ITS FALSE NEIGHBOUR: 'it returns false'. Refute it at one input. -/
def mergeTurnedWrong : ChangeSpec := { name := "mergeTurned", fn := fun _ => fun
  | [d] => { results := [.lit (.bool false)], args := [d] }
  | _ => none }
def MergeTurnedWrongFalsely : Prop := mergeTurnedRow.holds Try.pinned (OpenSpec.ofChange mergeTurnedWrong)

/-- 'bartizanlaw14.MergeParts': WHATEVER THE INPUT: true; the input reads as it did. -/
def mergePartsSpec : ChangeSpec := { name := "mergeParts", fn := fun _ => fun
  | [d1, d2] => { results := [.lit (.bool true)], args := [d1, d2] }
  | _ => none }
def mergePartsRow : OpenClaim := { program := "yteaanagljmcidaa", sum := "932db4f63da735a7f0f720ac42774457e8f4a28f831d9d3381ce842c602cedde", func := "bartizan/bartizanlaw14.MergeParts", spec := "mergeParts", inPlace := ["internal/bytealg.Compare"], unfollowed := true, recurses := true, apart := false }
def MergePartsSaid : Prop := mergePartsRow.holds Try.pinned (OpenSpec.ofChange mergePartsSpec)

/-- ITS FALSE NEIGHBOUR: 'it returns false'. Refute it at one input. -/
def mergePartsWrong : ChangeSpec := { name := "mergeParts", fn := fun _ => fun
  | [d1, d2] => { results := [.lit (.bool false)], args := [d1, d2] }
  | _ => none }
def MergePartsWrongFalsely : Prop := mergePartsRow.holds Try.pinned (OpenSpec.ofChange mergePartsWrong)

/-- 'bartizanlaw14.MergeSelf': WHATEVER THE INPUT: true; the input reads as it did. -/
def mergeSelfSpec : ChangeSpec := { name := "mergeSelf", fn := fun _ => fun
  | [d1, d2] => { results := [.lit (.bool true)], args := [d1, d2] }
  | _ => none }
def mergeSelfRow : OpenClaim := { program := "yteaanagljmcidaa", sum := "932db4f63da735a7f0f720ac42774457e8f4a28f831d9d3381ce842c602cedde", func := "bartizan/bartizanlaw14.MergeSelf", spec := "mergeSelf", inPlace := ["internal/bytealg.Compare"], unfollowed := true, recurses := true, apart := false }
def MergeSelfSaid : Prop := mergeSelfRow.holds Try.pinned (OpenSpec.ofChange mergeSelfSpec)

/-- ITS FALSE NEIGHBOUR: 'it returns false'. Refute it at one input. -/
def mergeSelfWrong : ChangeSpec := { name := "mergeSelf", fn := fun _ => fun
  | [d1, d2] => { results := [.lit (.bool false)], args := [d1, d2] }
  | _ => none }
def MergeSelfWrongFalsely : Prop := mergeSelfRow.holds Try.pinned (OpenSpec.ofChange mergeSelfWrong)

/-- 'bartizanlaw14.MergePlaces': WHATEVER THE INPUT: true; the input reads as it did. -/
def mergePlacesSpec : ChangeSpec := { name := "mergePlaces", fn := fun _ => fun
  | [d1, d2] => { results := [.lit (.bool true)], args := [d1, d2] }
  | _ => none }
def mergePlacesRow : OpenClaim := { program := "yteaanagljmcidaa", sum := "932db4f63da735a7f0f720ac42774457e8f4a28f831d9d3381ce842c602cedde", func := "bartizan/bartizanlaw14.MergePlaces", spec := "mergePlaces", inPlace := ["internal/bytealg.Compare"], unfollowed := true, recurses := true, apart := false }
def MergePlacesSaid : Prop := mergePlacesRow.holds Try.pinned (OpenSpec.ofChange mergePlacesSpec)

/-- ITS FALSE NEIGHBOUR: 'it returns false'. Refute it at one input. -/
def mergePlacesWrong : ChangeSpec := { name := "mergePlaces", fn := fun _ => fun
  | [d1, d2] => { results := [.lit (.bool false)], args := [d1, d2] }
  | _ => none }
def MergePlacesWrongFalsely : Prop := mergePlacesRow.holds Try.pinned (OpenSpec.ofChange mergePlacesWrong)

/-- 'bartizanlaw15.GlassKeeps': WHATEVER THE INPUT: true; the input reads as it did. -/
def glassKeepsSpec : ChangeSpec := { name := "glassKeeps", fn := fun _ => fun
  | [d1, d2, d3, d4] => { results := [.lit (.bool true)], args := [d1, d2, d3, d4] }
  | _ => none }
def glassKeepsRow : OpenClaim := { program := "yteaanagljmcidaa", sum := "932db4f63da735a7f0f720ac42774457e8f4a28f831d9d3381ce842c602cedde", func := "bartizan/bartizanlaw15.GlassKeeps", spec := "glassKeeps", inPlace := ["internal/bytealg.Compare"], unfollowed := true, recurses := true, apart := false }
def GlassKeepsSaid : Prop := glassKeepsRow.holds Try.pinned (OpenSpec.ofChange glassKeepsSpec)

/-- ITS FALSE NEIGHBOUR: 'it returns false'. Refute it at one input. -/
def glassKeepsWrong : ChangeSpec := { name := "glassKeeps", fn := fun _ => fun
  | [d1, d2, d3, d4] => { results := [.lit (.bool false)], args := [d1, d2, d3, d4] }
  | _ => none }
def GlassKeepsWrongFalsely : Prop := glassKeepsRow.holds Try.pinned (OpenSpec.ofChange glassKeepsWrong)

/-- 'bartizanlaw15.GlassBelow': WHATEVER THE INPUT: true; the input reads as it did. -/
def glassBelowSpec : ChangeSpec := { name := "glassBelow", fn := fun _ => fun
  | [d1, d2, d3, d4] => { results := [.lit (.bool true)], args := [d1, d2, d3, d4] }
  | _ => none }
def glassBelowRow : OpenClaim := { program := "yteaanagljmcidaa", sum := "932db4f63da735a7f0f720ac42774457e8f4a28f831d9d3381ce842c602cedde", func := "bartizan/bartizanlaw15.GlassBelow", spec := "glassBelow", inPlace := ["internal/bytealg.Compare"], unfollowed := true, recurses := true, apart := false }
def GlassBelowSaid : Prop := glassBelowRow.holds Try.pinned (OpenSpec.ofChange glassBelowSpec)

/-- ITS FALSE NEIGHBOUR: 'it returns false'. Refute it at one input. -/
def glassBelowWrong : ChangeSpec := { name := "glassBelow", fn := fun _ => fun
  | [d1, d2, d3, d4] => { results := [.lit (.bool false)], args := [d1, d2, d3, d4] }
  | _ => none }
def GlassBelowWrongFalsely : Prop := glassBelowRow.holds Try.pinned (OpenSpec.ofChange glassBelowWrong)

/-- 'bartizanlaw10.MemoMap': WHATEVER THE INPUT: true; the input reads as it did. -/
def memoMapSpec : ChangeSpec := { name := "memoMap", fn := fun _ => fun
  | [d] => { results := [.lit (.bool true)], args := [d] }
  | _ => none }
def memoMapRow : OpenClaim := { program := "yteaanagljmcidaa", sum := "932db4f63da735a7f0f720ac42774457e8f4a28f831d9d3381ce842c602cedde", func := "bartizan/bartizanlaw10.MemoMap", spec := "memoMap", inPlace := ["internal/bytealg.Compare"], apart := false }
def MemoMapSaid : Prop := memoMapRow.holds Try.pinned (OpenSpec.ofChange memoMapSpec)

/-- ITS FALSE NEIGHBOUR: 'it returns false'. Refute it at one input. -/
def memoMapWrong : ChangeSpec := { name := "memoMap", fn := fun _ => fun
  | [d] => { results := [.lit (.bool false)], args := [d] }
  | _ => none }
def MemoMapWrongFalsely : Prop := memoMapRow.holds Try.pinned (OpenSpec.ofChange memoMapWrong)

/-- 'bartizanlaw10.MemoStays': WHATEVER THE INPUT: true; the input reads as it did. -/
def memoStaysSpec : ChangeSpec := { name := "memoStays", fn := fun _ => fun
  | [d1, d2, d3] => { results := [.lit (.bool true)], args := [d1, d2, d3] }
  | _ => none }
def memoStaysRow : OpenClaim := { program := "yteaanagljmcidaa", sum := "932db4f63da735a7f0f720ac42774457e8f4a28f831d9d3381ce842c602cedde", func := "bartizan/bartizanlaw10.MemoStays", spec := "memoStays", inPlace := ["internal/bytealg.Compare"], apart := false }
def MemoStaysSaid : Prop := memoStaysRow.holds Try.pinned (OpenSpec.ofChange memoStaysSpec)

/-- ITS FALSE NEIGHBOUR: 'it returns false'. Refute it at one input. -/
def memoStaysWrong : ChangeSpec := { name := "memoStays", fn := fun _ => fun
  | [d1, d2, d3] => { results := [.lit (.bool false)], args := [d1, d2, d3] }
  | _ => none }
def MemoStaysWrongFalsely : Prop := memoStaysRow.holds Try.pinned (OpenSpec.ofChange memoStaysWrong)

/-- 'bartizanlaw15.GlassSame': WHATEVER THE INPUT: true; the input reads as it did. -/
def glassSameSpec : ChangeSpec := { name := "glassSame", fn := fun _ => fun
  | [d1, d2, d3, d4] => { results := [.lit (.bool true)], args := [d1, d2, d3, d4] }
  | _ => none }
def glassSameRow : OpenClaim := { program := "yteaanagljmcidaa", sum := "932db4f63da735a7f0f720ac42774457e8f4a28f831d9d3381ce842c602cedde", func := "bartizan/bartizanlaw15.GlassSame", spec := "glassSame", inPlace := ["internal/bytealg.Compare"], unfollowed := true, recurses := true, apart := false }
def GlassSameSaid : Prop := glassSameRow.holds Try.pinned (OpenSpec.ofChange glassSameSpec)

/-- ITS FALSE NEIGHBOUR: 'it returns false'. Refute it at one input. -/
def glassSameWrong : ChangeSpec := { name := "glassSame", fn := fun _ => fun
  | [d1, d2, d3, d4] => { results := [.lit (.bool false)], args := [d1, d2, d3, d4] }
  | _ => none }
def GlassSameWrongFalsely : Prop := glassSameRow.holds Try.pinned (OpenSpec.ofChange glassSameWrong)

/-- 'bartizanlaw15.GlassParts': WHATEVER THE INPUT: true; the input reads as it did. -/
def glassPartsSpec : ChangeSpec := { name := "glassParts", fn := fun _ => fun
  | [d1, d2, d3, d4] => { results := [.lit (.bool true)], args := [d1, d2, d3, d4] }
  | _ => none }
def glassPartsRow : OpenClaim := { program := "yteaanagljmcidaa", sum := "932db4f63da735a7f0f720ac42774457e8f4a28f831d9d3381ce842c602cedde", func := "bartizan/bartizanlaw15.GlassParts", spec := "glassParts", inPlace := ["internal/bytealg.Compare"], unfollowed := true, recurses := true, apart := false }
def GlassPartsSaid : Prop := glassPartsRow.holds Try.pinned (OpenSpec.ofChange glassPartsSpec)

/-- ITS FALSE NEIGHBOUR: 'it returns false'. Refute it at one input. -/
def glassPartsWrong : ChangeSpec := { name := "glassParts", fn := fun _ => fun
  | [d1, d2, d3, d4] => { results := [.lit (.bool false)], args := [d1, d2, d3, d4] }
  | _ => none }
def GlassPartsWrongFalsely : Prop := glassPartsRow.holds Try.pinned (OpenSpec.ofChange glassPartsWrong)

/-- 'bartizanlaw15.GlassBack': WHATEVER THE INPUT: true; the input reads as it did. -/
def glassBackSpec : ChangeSpec := { name := "glassBack", fn := fun _ => fun
  | [d1, d2, d3, d4, d5] => { results := [.lit (.bool true)], args := [d1, d2, d3, d4, d5] }
  | _ => none }
def glassBackRow : OpenClaim := { program := "yteaanagljmcidaa", sum := "932db4f63da735a7f0f720ac42774457e8f4a28f831d9d3381ce842c602cedde", func := "bartizan/bartizanlaw15.GlassBack", spec := "glassBack", inPlace := ["internal/bytealg.Compare"], unfollowed := true, recurses := true, apart := false }
def GlassBackSaid : Prop := glassBackRow.holds Try.pinned (OpenSpec.ofChange glassBackSpec)

/-- ITS FALSE NEIGHBOUR: 'it returns false'. Refute it at one input. -/
def glassBackWrong : ChangeSpec := { name := "glassBack", fn := fun _ => fun
  | [d1, d2, d3, d4, d5] => { results := [.lit (.bool false)], args := [d1, d2, d3, d4, d5] }
  | _ => none }
def GlassBackWrongFalsely : Prop := glassBackRow.holds Try.pinned (OpenSpec.ofChange glassBackWrong)

/-- 'bartizanlaw10.MemoOlder': WHATEVER THE INPUT: true; the input reads as it did. -/
def memoOlderSpec : ChangeSpec := { name := "memoOlder", fn := fun _ => fun
  | [d1, d2, d3] => { results := [.lit (.bool true)], args := [d1, d2, d3] }
  | _ => none }
def memoOlderRow : OpenClaim := { program := "yteaanagljmcidaa", sum := "932db4f63da735a7f0f720ac42774457e8f4a28f831d9d3381ce842c602cedde", func := "bartizan/bartizanlaw10.MemoOlder", spec := "memoOlder", inPlace := ["internal/bytealg.Compare"], apart := false }
def MemoOlderSaid : Prop := memoOlderRow.holds Try.pinned (OpenSpec.ofChange memoOlderSpec)

/-- ITS FALSE NEIGHBOUR: 'it returns false'. Refute it at one input. -/
def memoOlderWrong : ChangeSpec := { name := "memoOlder", fn := fun _ => fun
  | [d1, d2, d3] => { results := [.lit (.bool false)], args := [d1, d2, d3] }
  | _ => none }
def MemoOlderWrongFalsely : Prop := memoOlderRow.holds Try.pinned (OpenSpec.ofChange memoOlderWrong)

/-- 'bartizanlaw10.MemoFind': WHATEVER THE INPUT: true; the input reads as it did. -/
def memoFindSpec : ChangeSpec := { name := "memoFind", fn := fun _ => fun
  | [d1, d2, d3] => { results := [.lit (.bool true)], args := [d1, d2, d3] }
  | _ => none }
def memoFindRow : OpenClaim := { program := "yteaanagljmcidaa", sum := "932db4f63da735a7f0f720ac42774457e8f4a28f831d9d3381ce842c602cedde", func := "bartizan/bartizanlaw10.MemoFind", spec := "memoFind", inPlace := ["internal/bytealg.Compare"], unfollowed := true, recurses := true, apart := false }
def MemoFindSaid : Prop := memoFindRow.holds Try.pinned (OpenSpec.ofChange memoFindSpec)

/-- ITS FALSE NEIGHBOUR: 'it returns false'. Refute it at one input. -/
def memoFindWrong : ChangeSpec := { name := "memoFind", fn := fun _ => fun
  | [d1, d2, d3] => { results := [.lit (.bool false)], args := [d1, d2, d3] }
  | _ => none }
def MemoFindWrongFalsely : Prop := memoFindRow.holds Try.pinned (OpenSpec.ofChange memoFindWrong)

/-- 'bartizanlaw10.MemoPlays': WHATEVER THE INPUT: true; the input reads as it did. -/
def memoPlaysSpec : ChangeSpec := { name := "memoPlays", fn := fun _ => fun
  | [d1, d2, d3, d4] => { results := [.lit (.bool true)], args := [d1, d2, d3, d4] }
  | _ => none }
def memoPlaysRow : OpenClaim := { program := "yteaanagljmcidaa", sum := "932db4f63da735a7f0f720ac42774457e8f4a28f831d9d3381ce842c602cedde", func := "bartizan/bartizanlaw10.MemoPlays", spec := "memoPlays", inPlace := ["internal/bytealg.Compare"], unfollowed := true, recurses := true, apart := false }
def MemoPlaysSaid : Prop := memoPlaysRow.holds Try.pinned (OpenSpec.ofChange memoPlaysSpec)

/-- ITS FALSE NEIGHBOUR: 'it returns false'. Refute it at one input. -/
def memoPlaysWrong : ChangeSpec := { name := "memoPlays", fn := fun _ => fun
  | [d1, d2, d3, d4] => { results := [.lit (.bool false)], args := [d1, d2, d3, d4] }
  | _ => none }
def MemoPlaysWrongFalsely : Prop := memoPlaysRow.holds Try.pinned (OpenSpec.ofChange memoPlaysWrong)

/-- 'bartizanlaw10.MemoBatches': WHATEVER THE INPUT: true; the input reads as it did. -/
def memoBatchesSpec : ChangeSpec := { name := "memoBatches", fn := fun _ => fun
  | [d1, d2, d3] => { results := [.lit (.bool true)], args := [d1, d2, d3] }
  | _ => none }
def memoBatchesRow : OpenClaim := { program := "yteaanagljmcidaa", sum := "932db4f63da735a7f0f720ac42774457e8f4a28f831d9d3381ce842c602cedde", func := "bartizan/bartizanlaw10.MemoBatches", spec := "memoBatches", inPlace := ["internal/bytealg.Compare"], unfollowed := true, recurses := true, apart := false }
def MemoBatchesSaid : Prop := memoBatchesRow.holds Try.pinned (OpenSpec.ofChange memoBatchesSpec)

/-- ITS FALSE NEIGHBOUR: 'it returns false'. Refute it at one input. -/
def memoBatchesWrong : ChangeSpec := { name := "memoBatches", fn := fun _ => fun
  | [d1, d2, d3] => { results := [.lit (.bool false)], args := [d1, d2, d3] }
  | _ => none }
def MemoBatchesWrongFalsely : Prop := memoBatchesRow.holds Try.pinned (OpenSpec.ofChange memoBatchesWrong)

/- THE SECOND FORM. 'bulk': how many values and letters a reading holds, each counted each time it is reached (what is shared counts as often as it is met; a slice's spare places count too). A statement '..UptoSaid' is the law's where the arguments, and the package variables that the reading takes, are together of bulk at most 1048576: NARROWER than '..Said'. Prove '..Said' where nothing that the law and all that it calls make is longer than what came in: it says more and counts as full. Else prove '..UptoSaid'. A law counts once. -/
mutual
def uptoBulk {H : Type} : DataW H → Nat
  | .lit (.string bytes) => bytes.length + 1
  | .lit _ => 1
  | .nil => 1
  | .ptr d => uptoBulk d + 1
  | .slice elems spare => uptoBulkAll elems + uptoBulkAll spare + 1
  | .agg parts => uptoBulkAll parts + 1
  | .iface _ d => uptoBulk d + 1
  | .map entries => uptoBulkEntries entries + 1
  | .held _ => 1
def uptoBulkAll {H : Type} : List (DataW H) → Nat
  | [] => 0
  | d :: r => uptoBulk d + uptoBulkAll r
def uptoBulkEntries {H : Type} : List (Lit × DataW H) → Nat
  | [] => 0
  | x :: r => uptoBulkEntry x + uptoBulkEntries r
def uptoBulkEntry {H : Type} : Lit × DataW H → Nat
  | (.string bytes, d) => bytes.length + uptoBulk d + 1
  | (_, d) => uptoBulk d + 1
 end
def uptoSmall : (H : Type) → List (DataW H) → Bool := fun _ ds => decide (uptoBulkAll ds ≤ 1048576)
def OpenSpec.upto (s : _root_.Go.ChangeSpec) : _root_.Go.OpenSpec := { _root_.Go.OpenSpec.ofChange s with cond := some uptoSmall }

/-- 'bartizanlaw08.SkipRows', WHERE WHAT IT READS IS OF BULK AT MOST 1048576: true; the input reads as it did. -/
def skipRowsUptoRow : OpenClaim := { program := "yteaanagljmcidaa", sum := "932db4f63da735a7f0f720ac42774457e8f4a28f831d9d3381ce842c602cedde", func := "bartizan/bartizanlaw08.SkipRows", spec := "skipRows", inPlace := ["internal/bytealg.Compare"], unfollowed := true, recurses := true, apart := false, narrowed := true }
def SkipRowsUptoSaid : Prop := skipRowsUptoRow.holds Try.pinned (OpenSpec.upto skipRowsSpec)

/-- 'bartizanlaw08.SkipHeights', WHERE WHAT IT READS IS OF BULK AT MOST 1048576: true; the input reads as it did. -/
def skipHeightsUptoRow : OpenClaim := { program := "yteaanagljmcidaa", sum := "932db4f63da735a7f0f720ac42774457e8f4a28f831d9d3381ce842c602cedde", func := "bartizan/bartizanlaw08.SkipHeights", spec := "skipHeights", inPlace := ["internal/bytealg.Compare"], unfollowed := true, recurses := true, apart := false, narrowed := true }
def SkipHeightsUptoSaid : Prop := skipHeightsUptoRow.holds Try.pinned (OpenSpec.upto skipHeightsSpec)

/-- 'bartizanlaw08.SkipWalks', WHERE WHAT IT READS IS OF BULK AT MOST 1048576: true; the input reads as it did. -/
def skipWalksUptoRow : OpenClaim := { program := "yteaanagljmcidaa", sum := "932db4f63da735a7f0f720ac42774457e8f4a28f831d9d3381ce842c602cedde", func := "bartizan/bartizanlaw08.SkipWalks", spec := "skipWalks", inPlace := ["internal/bytealg.Compare"], unfollowed := true, recurses := true, apart := false, narrowed := true }
def SkipWalksUptoSaid : Prop := skipWalksUptoRow.holds Try.pinned (OpenSpec.upto skipWalksSpec)

/-- 'bartizanlaw08.SkipApart', WHERE WHAT IT READS IS OF BULK AT MOST 1048576: true; the input reads as it did. -/
def skipApartUptoRow : OpenClaim := { program := "yteaanagljmcidaa", sum := "932db4f63da735a7f0f720ac42774457e8f4a28f831d9d3381ce842c602cedde", func := "bartizan/bartizanlaw08.SkipApart", spec := "skipApart", inPlace := ["internal/bytealg.Compare"], unfollowed := true, recurses := true, apart := false, narrowed := true }
def SkipApartUptoSaid : Prop := skipApartUptoRow.holds Try.pinned (OpenSpec.upto skipApartSpec)

/-- 'bartizanlaw08.SkipTwice', WHERE WHAT IT READS IS OF BULK AT MOST 1048576: true; the input reads as it did. -/
def skipTwiceUptoRow : OpenClaim := { program := "yteaanagljmcidaa", sum := "932db4f63da735a7f0f720ac42774457e8f4a28f831d9d3381ce842c602cedde", func := "bartizan/bartizanlaw08.SkipTwice", spec := "skipTwice", inPlace := ["internal/bytealg.Compare"], unfollowed := true, recurses := true, apart := false, narrowed := true }
def SkipTwiceUptoSaid : Prop := skipTwiceUptoRow.holds Try.pinned (OpenSpec.upto skipTwiceSpec)

/-- 'bartizanlaw08.SkipPlays', WHERE WHAT IT READS IS OF BULK AT MOST 1048576: true; the input reads as it did. -/
def skipPlaysUptoRow : OpenClaim := { program := "yteaanagljmcidaa", sum := "932db4f63da735a7f0f720ac42774457e8f4a28f831d9d3381ce842c602cedde", func := "bartizan/bartizanlaw08.SkipPlays", spec := "skipPlays", inPlace := ["internal/bytealg.Compare"], unfollowed := true, recurses := true, apart := false, narrowed := true }
def SkipPlaysUptoSaid : Prop := skipPlaysUptoRow.holds Try.pinned (OpenSpec.upto skipPlaysSpec)

/-- 'bartizanlaw14.MergePlays', WHERE WHAT IT READS IS OF BULK AT MOST 1048576: true; the input reads as it did. -/
def mergePlaysUptoRow : OpenClaim := { program := "yteaanagljmcidaa", sum := "932db4f63da735a7f0f720ac42774457e8f4a28f831d9d3381ce842c602cedde", func := "bartizan/bartizanlaw14.MergePlays", spec := "mergePlays", inPlace := ["internal/bytealg.Compare"], unfollowed := true, recurses := true, apart := false, narrowed := true }
def MergePlaysUptoSaid : Prop := mergePlaysUptoRow.holds Try.pinned (OpenSpec.upto mergePlaysSpec)

/-- 'bartizanlaw14.MergeTurned', WHERE WHAT IT READS IS OF BULK AT MOST 1048576: true; the input reads as it did. -/
def mergeTurnedUptoRow : OpenClaim := { program := "yteaanagljmcidaa", sum := "932db4f63da735a7f0f720ac42774457e8f4a28f831d9d3381ce842c602cedde", func := "bartizan/bartizanlaw14.MergeTurned", spec := "mergeTurned", inPlace := ["internal/bytealg.Compare"], unfollowed := true, recurses := true, apart := false, narrowed := true }
def MergeTurnedUptoSaid : Prop := mergeTurnedUptoRow.holds Try.pinned (OpenSpec.upto mergeTurnedSpec)

/-- 'bartizanlaw14.MergeParts', WHERE WHAT IT READS IS OF BULK AT MOST 1048576: true; the input reads as it did. -/
def mergePartsUptoRow : OpenClaim := { program := "yteaanagljmcidaa", sum := "932db4f63da735a7f0f720ac42774457e8f4a28f831d9d3381ce842c602cedde", func := "bartizan/bartizanlaw14.MergeParts", spec := "mergeParts", inPlace := ["internal/bytealg.Compare"], unfollowed := true, recurses := true, apart := false, narrowed := true }
def MergePartsUptoSaid : Prop := mergePartsUptoRow.holds Try.pinned (OpenSpec.upto mergePartsSpec)

/-- 'bartizanlaw14.MergeSelf', WHERE WHAT IT READS IS OF BULK AT MOST 1048576: true; the input reads as it did. -/
def mergeSelfUptoRow : OpenClaim := { program := "yteaanagljmcidaa", sum := "932db4f63da735a7f0f720ac42774457e8f4a28f831d9d3381ce842c602cedde", func := "bartizan/bartizanlaw14.MergeSelf", spec := "mergeSelf", inPlace := ["internal/bytealg.Compare"], unfollowed := true, recurses := true, apart := false, narrowed := true }
def MergeSelfUptoSaid : Prop := mergeSelfUptoRow.holds Try.pinned (OpenSpec.upto mergeSelfSpec)

/-- 'bartizanlaw14.MergePlaces', WHERE WHAT IT READS IS OF BULK AT MOST 1048576: true; the input reads as it did. -/
def mergePlacesUptoRow : OpenClaim := { program := "yteaanagljmcidaa", sum := "932db4f63da735a7f0f720ac42774457e8f4a28f831d9d3381ce842c602cedde", func := "bartizan/bartizanlaw14.MergePlaces", spec := "mergePlaces", inPlace := ["internal/bytealg.Compare"], unfollowed := true, recurses := true, apart := false, narrowed := true }
def MergePlacesUptoSaid : Prop := mergePlacesUptoRow.holds Try.pinned (OpenSpec.upto mergePlacesSpec)

/-- 'bartizanlaw15.GlassKeeps', WHERE WHAT IT READS IS OF BULK AT MOST 1048576: true; the input reads as it did. -/
def glassKeepsUptoRow : OpenClaim := { program := "yteaanagljmcidaa", sum := "932db4f63da735a7f0f720ac42774457e8f4a28f831d9d3381ce842c602cedde", func := "bartizan/bartizanlaw15.GlassKeeps", spec := "glassKeeps", inPlace := ["internal/bytealg.Compare"], unfollowed := true, recurses := true, apart := false, narrowed := true }
def GlassKeepsUptoSaid : Prop := glassKeepsUptoRow.holds Try.pinned (OpenSpec.upto glassKeepsSpec)

/-- 'bartizanlaw15.GlassBelow', WHERE WHAT IT READS IS OF BULK AT MOST 1048576: true; the input reads as it did. -/
def glassBelowUptoRow : OpenClaim := { program := "yteaanagljmcidaa", sum := "932db4f63da735a7f0f720ac42774457e8f4a28f831d9d3381ce842c602cedde", func := "bartizan/bartizanlaw15.GlassBelow", spec := "glassBelow", inPlace := ["internal/bytealg.Compare"], unfollowed := true, recurses := true, apart := false, narrowed := true }
def GlassBelowUptoSaid : Prop := glassBelowUptoRow.holds Try.pinned (OpenSpec.upto glassBelowSpec)

/-- 'bartizanlaw10.MemoMap', WHERE WHAT IT READS IS OF BULK AT MOST 1048576: true; the input reads as it did. -/
def memoMapUptoRow : OpenClaim := { program := "yteaanagljmcidaa", sum := "932db4f63da735a7f0f720ac42774457e8f4a28f831d9d3381ce842c602cedde", func := "bartizan/bartizanlaw10.MemoMap", spec := "memoMap", inPlace := ["internal/bytealg.Compare"], apart := false, narrowed := true }
def MemoMapUptoSaid : Prop := memoMapUptoRow.holds Try.pinned (OpenSpec.upto memoMapSpec)

/-- 'bartizanlaw10.MemoStays', WHERE WHAT IT READS IS OF BULK AT MOST 1048576: true; the input reads as it did. -/
def memoStaysUptoRow : OpenClaim := { program := "yteaanagljmcidaa", sum := "932db4f63da735a7f0f720ac42774457e8f4a28f831d9d3381ce842c602cedde", func := "bartizan/bartizanlaw10.MemoStays", spec := "memoStays", inPlace := ["internal/bytealg.Compare"], apart := false, narrowed := true }
def MemoStaysUptoSaid : Prop := memoStaysUptoRow.holds Try.pinned (OpenSpec.upto memoStaysSpec)

/-- 'bartizanlaw15.GlassSame', WHERE WHAT IT READS IS OF BULK AT MOST 1048576: true; the input reads as it did. -/
def glassSameUptoRow : OpenClaim := { program := "yteaanagljmcidaa", sum := "932db4f63da735a7f0f720ac42774457e8f4a28f831d9d3381ce842c602cedde", func := "bartizan/bartizanlaw15.GlassSame", spec := "glassSame", inPlace := ["internal/bytealg.Compare"], unfollowed := true, recurses := true, apart := false, narrowed := true }
def GlassSameUptoSaid : Prop := glassSameUptoRow.holds Try.pinned (OpenSpec.upto glassSameSpec)

/-- 'bartizanlaw15.GlassParts', WHERE WHAT IT READS IS OF BULK AT MOST 1048576: true; the input reads as it did. -/
def glassPartsUptoRow : OpenClaim := { program := "yteaanagljmcidaa", sum := "932db4f63da735a7f0f720ac42774457e8f4a28f831d9d3381ce842c602cedde", func := "bartizan/bartizanlaw15.GlassParts", spec := "glassParts", inPlace := ["internal/bytealg.Compare"], unfollowed := true, recurses := true, apart := false, narrowed := true }
def GlassPartsUptoSaid : Prop := glassPartsUptoRow.holds Try.pinned (OpenSpec.upto glassPartsSpec)

/-- 'bartizanlaw15.GlassBack', WHERE WHAT IT READS IS OF BULK AT MOST 1048576: true; the input reads as it did. -/
def glassBackUptoRow : OpenClaim := { program := "yteaanagljmcidaa", sum := "932db4f63da735a7f0f720ac42774457e8f4a28f831d9d3381ce842c602cedde", func := "bartizan/bartizanlaw15.GlassBack", spec := "glassBack", inPlace := ["internal/bytealg.Compare"], unfollowed := true, recurses := true, apart := false, narrowed := true }
def GlassBackUptoSaid : Prop := glassBackUptoRow.holds Try.pinned (OpenSpec.upto glassBackSpec)

/-- 'bartizanlaw10.MemoOlder', WHERE WHAT IT READS IS OF BULK AT MOST 1048576: true; the input reads as it did. -/
def memoOlderUptoRow : OpenClaim := { program := "yteaanagljmcidaa", sum := "932db4f63da735a7f0f720ac42774457e8f4a28f831d9d3381ce842c602cedde", func := "bartizan/bartizanlaw10.MemoOlder", spec := "memoOlder", inPlace := ["internal/bytealg.Compare"], apart := false, narrowed := true }
def MemoOlderUptoSaid : Prop := memoOlderUptoRow.holds Try.pinned (OpenSpec.upto memoOlderSpec)

/-- 'bartizanlaw10.MemoFind', WHERE WHAT IT READS IS OF BULK AT MOST 1048576: true; the input reads as it did. -/
def memoFindUptoRow : OpenClaim := { program := "yteaanagljmcidaa", sum := "932db4f63da735a7f0f720ac42774457e8f4a28f831d9d3381ce842c602cedde", func := "bartizan/bartizanlaw10.MemoFind", spec := "memoFind", inPlace := ["internal/bytealg.Compare"], unfollowed := true, recurses := true, apart := false, narrowed := true }
def MemoFindUptoSaid : Prop := memoFindUptoRow.holds Try.pinned (OpenSpec.upto memoFindSpec)

/-- 'bartizanlaw10.MemoPlays', WHERE WHAT IT READS IS OF BULK AT MOST 1048576: true; the input reads as it did. -/
def memoPlaysUptoRow : OpenClaim := { program := "yteaanagljmcidaa", sum := "932db4f63da735a7f0f720ac42774457e8f4a28f831d9d3381ce842c602cedde", func := "bartizan/bartizanlaw10.MemoPlays", spec := "memoPlays", inPlace := ["internal/bytealg.Compare"], unfollowed := true, recurses := true, apart := false, narrowed := true }
def MemoPlaysUptoSaid : Prop := memoPlaysUptoRow.holds Try.pinned (OpenSpec.upto memoPlaysSpec)

/-- 'bartizanlaw10.MemoBatches', WHERE WHAT IT READS IS OF BULK AT MOST 1048576: true; the input reads as it did. -/
def memoBatchesUptoRow : OpenClaim := { program := "yteaanagljmcidaa", sum := "932db4f63da735a7f0f720ac42774457e8f4a28f831d9d3381ce842c602cedde", func := "bartizan/bartizanlaw10.MemoBatches", spec := "memoBatches", inPlace := ["internal/bytealg.Compare"], unfollowed := true, recurses := true, apart := false, narrowed := true }
def MemoBatchesUptoSaid : Prop := memoBatchesUptoRow.holds Try.pinned (OpenSpec.upto memoBatchesSpec)

end Rows
end Go.Proofs.Yteaanagljmcidaa
