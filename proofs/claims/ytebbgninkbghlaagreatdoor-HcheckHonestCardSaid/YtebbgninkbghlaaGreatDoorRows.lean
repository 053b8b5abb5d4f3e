/-
  NARROWER THAN 'FOR EVERY INPUT', by the rows' own cells (each row's printed sentence says how): HcheckKeeps: laid · HproofProves: laid · HproofSizes: laid · HproofNil: laid · HproofKeeps: laid · HproofWalks: laid · HamtMemory: laid · HproofOneSet: laid · WholeShown: laid · HcheckHonest: laid · HproofAccepted: laid.
  DERIVED. THE GIVEN ROWS OF THIS SEAT. 11 by the template 'for every input the law returns true; each argument reads behind the call as it read before'; 0 by the template 'total and deterministic' (their statements: YtebbgninkbghlaaGreatDoorTotals.lean).
  GIVEN WITH THE SEED: the statements are not yours to turn. If you find one false, say at which input.
  Laid BY PROGRAM, IN A SANDBOX (cutbox-rows.mjs): the forced cells as the released guide's own fill.sh prints them over the translation e47c76c560d66e37… (all of the seat's roots in one cut). By AI agents, Wed Nov 11 2026. No macro, syntax, notation, axiom, sorry.
-/
import Derived.Test.YtebbgninkbghlaaGreatDoorChecked
import GoSem.Claim
import GoSem.ClaimJoined
import GoSem.ClaimMapViews
import Derived.JoinedTies
import Derived.KernelRfl
namespace Go.Proofs.YtebbgninkbghlaaGreatDoor
/- THE CELL 'sum', in the pinned program and in every row, IS THE sha256 OF THE DUMP (.gsa) THAT YtebbgninkbghlaaGreatDoorProg.lean LOADS. Nothing in Lean hashes anything: it is a label: what it is worth is what the hold of that sum in a sandbox is worth. -/
noncomputable def Tryz.pinned : Pinned := { name := "ytebbgninkbghlaagreatdoor", sum := "e47c76c560d66e375966311933a78bd7314154b1c01e32a3a9f37a04e8ea6179", checked := Tryz.checked }
namespace Rows
def none {H : Type} : Left H := { results := [], args := [] }

/- WHAT THE LISTED PACKAGE-LEVEL VARIABLES READ AS WHEN THE CALL BEGINS. Each datum BY PROGRAM (the guide's laid-datum.mjs) off the statement by which the dump's own 'gosem.cut.vars' lays the variable. In a bare row this is a premise. The card (YtebbgninkbghlaaGreatDoorCards.lean) ties it to the program's text. -/
def laid_notary_sha_words {H : Type} : DataW H := .agg [.lit (.int .u32 1116352408), .lit (.int .u32 1899447441), .lit (.int .u32 3049323471), .lit (.int .u32 3921009573), .lit (.int .u32 961987163), .lit (.int .u32 1508970993), .lit (.int .u32 2453635748), .lit (.int .u32 2870763221), .lit (.int .u32 3624381080), .lit (.int .u32 310598401), .lit (.int .u32 607225278), .lit (.int .u32 1426881987), .lit (.int .u32 1925078388), .lit (.int .u32 2162078206), .lit (.int .u32 2614888103), .lit (.int .u32 3248222580), .lit (.int .u32 3835390401), .lit (.int .u32 4022224774), .lit (.int .u32 264347078), .lit (.int .u32 604807628), .lit (.int .u32 770255983), .lit (.int .u32 1249150122), .lit (.int .u32 1555081692), .lit (.int .u32 1996064986), .lit (.int .u32 2554220882), .lit (.int .u32 2821834349), .lit (.int .u32 2952996808), .lit (.int .u32 3210313671), .lit (.int .u32 3336571891), .lit (.int .u32 3584528711), .lit (.int .u32 113926993), .lit (.int .u32 338241895), .lit (.int .u32 666307205), .lit (.int .u32 773529912), .lit (.int .u32 1294757372), .lit (.int .u32 1396182291), .lit (.int .u32 1695183700), .lit (.int .u32 1986661051), .lit (.int .u32 2177026350), .lit (.int .u32 2456956037), .lit (.int .u32 2730485921), .lit (.int .u32 2820302411), .lit (.int .u32 3259730800), .lit (.int .u32 3345764771), .lit (.int .u32 3516065817), .lit (.int .u32 3600352804), .lit (.int .u32 4094571909), .lit (.int .u32 275423344), .lit (.int .u32 430227734), .lit (.int .u32 506948616), .lit (.int .u32 659060556), .lit (.int .u32 883997877), .lit (.int .u32 958139571), .lit (.int .u32 1322822218), .lit (.int .u32 1537002063), .lit (.int .u32 1747873779), .lit (.int .u32 1955562222), .lit (.int .u32 2024104815), .lit (.int .u32 2227730452), .lit (.int .u32 2361852424), .lit (.int .u32 2428436474), .lit (.int .u32 2756734187), .lit (.int .u32 3204031479), .lit (.int .u32 3329325298)]

/-- 'notarylaw16.HcheckKeeps': WHATEVER THE INPUT: true; the input reads as it did. -/
def hcheckKeepsSpec : ChangeSpec := { name := "hcheckKeeps", fn := fun _ => fun
  | [d] => { results := [.lit (.bool true)], args := [d] }
  | _ => none }
def hcheckKeepsRow : OpenClaim := { program := "ytebbgninkbghlaagreatdoor", sum := "e47c76c560d66e375966311933a78bd7314154b1c01e32a3a9f37a04e8ea6179", func := "notary/notarylaw16.HcheckKeeps", spec := "hcheckKeeps", inPlace := ["internal/bytealg.Compare", "slices.overlaps[notary/api.Digest]"], unfollowed := true, recurses := true, named := ["notary/sha.words"], apart := false, laid := [("notary/sha.words", laid_notary_sha_words)] }
def HcheckKeepsSaid : Prop := hcheckKeepsRow.holds Tryz.pinned (OpenSpec.ofChange hcheckKeepsSpec)

/-- ITS FALSE NEIGHBOUR: 'it returns false'. Refute it at one input. -/
def hcheckKeepsWrong : ChangeSpec := { name := "hcheckKeeps", fn := fun _ => fun
  | [d] => { results := [.lit (.bool false)], args := [d] }
  | _ => none }
def HcheckKeepsWrongFalsely : Prop := hcheckKeepsRow.holds Tryz.pinned (OpenSpec.ofChange hcheckKeepsWrong)

/-- 'notarylaw15.HproofProves': WHATEVER THE INPUT: true; the input reads as it did. -/
def hproofProvesSpec : ChangeSpec := { name := "hproofProves", fn := fun _ => fun
  | [d1, d2, d3] => { results := [.lit (.bool true)], args := [d1, d2, d3] }
  | _ => none }
def hproofProvesRow : OpenClaim := { program := "ytebbgninkbghlaagreatdoor", sum := "e47c76c560d66e375966311933a78bd7314154b1c01e32a3a9f37a04e8ea6179", func := "notary/notarylaw15.HproofProves", spec := "hproofProves", inPlace := ["slices.overlaps[notary/api.Pair]", "slices.overlaps[notary/hamt.node]"], unfollowed := true, recurses := true, named := ["notary/sha.words"], apart := false, laid := [("notary/sha.words", laid_notary_sha_words)] }
def HproofProvesSaid : Prop := hproofProvesRow.holds Tryz.pinned (OpenSpec.ofChange hproofProvesSpec)

/-- ITS FALSE NEIGHBOUR: 'it returns false'. Refute it at one input. -/
def hproofProvesWrong : ChangeSpec := { name := "hproofProves", fn := fun _ => fun
  | [d1, d2, d3] => { results := [.lit (.bool false)], args := [d1, d2, d3] }
  | _ => none }
def HproofProvesWrongFalsely : Prop := hproofProvesRow.holds Tryz.pinned (OpenSpec.ofChange hproofProvesWrong)

/-- 'notarylaw15.HproofSizes': WHATEVER THE INPUT: true; the input reads as it did. -/
def hproofSizesSpec : ChangeSpec := { name := "hproofSizes", fn := fun _ => fun
  | [d] => { results := [.lit (.bool true)], args := [d] }
  | _ => none }
def hproofSizesRow : OpenClaim := { program := "ytebbgninkbghlaagreatdoor", sum := "e47c76c560d66e375966311933a78bd7314154b1c01e32a3a9f37a04e8ea6179", func := "notary/notarylaw15.HproofSizes", spec := "hproofSizes", inPlace := ["slices.overlaps[notary/api.Pair]", "slices.overlaps[notary/hamt.node]"], unfollowed := true, recurses := true, named := ["notary/sha.words"], apart := false, laid := [("notary/sha.words", laid_notary_sha_words)] }
def HproofSizesSaid : Prop := hproofSizesRow.holds Tryz.pinned (OpenSpec.ofChange hproofSizesSpec)

/-- ITS FALSE NEIGHBOUR: 'it returns false'. Refute it at one input. -/
def hproofSizesWrong : ChangeSpec := { name := "hproofSizes", fn := fun _ => fun
  | [d] => { results := [.lit (.bool false)], args := [d] }
  | _ => none }
def HproofSizesWrongFalsely : Prop := hproofSizesRow.holds Tryz.pinned (OpenSpec.ofChange hproofSizesWrong)

/-- 'notarylaw15.HproofNil': WHATEVER THE INPUT: true; the input reads as it did. -/
def hproofNilSpec : ChangeSpec := { name := "hproofNil", fn := fun _ => fun
  | [d] => { results := [.lit (.bool true)], args := [d] }
  | _ => none }
def hproofNilRow : OpenClaim := { program := "ytebbgninkbghlaagreatdoor", sum := "e47c76c560d66e375966311933a78bd7314154b1c01e32a3a9f37a04e8ea6179", func := "notary/notarylaw15.HproofNil", spec := "hproofNil", inPlace := ["slices.overlaps[notary/api.Pair]", "slices.overlaps[notary/hamt.node]"], unfollowed := true, recurses := true, named := ["notary/sha.words"], apart := false, laid := [("notary/sha.words", laid_notary_sha_words)] }
def HproofNilSaid : Prop := hproofNilRow.holds Tryz.pinned (OpenSpec.ofChange hproofNilSpec)

/-- ITS FALSE NEIGHBOUR: 'it returns false'. Refute it at one input. -/
def hproofNilWrong : ChangeSpec := { name := "hproofNil", fn := fun _ => fun
  | [d] => { results := [.lit (.bool false)], args := [d] }
  | _ => none }
def HproofNilWrongFalsely : Prop := hproofNilRow.holds Tryz.pinned (OpenSpec.ofChange hproofNilWrong)

/-- 'notarylaw15.HproofKeeps': WHATEVER THE INPUT: true; the input reads as it did. -/
def hproofKeepsSpec : ChangeSpec := { name := "hproofKeeps", fn := fun _ => fun
  | [d1, d2, d3] => { results := [.lit (.bool true)], args := [d1, d2, d3] }
  | _ => none }
def hproofKeepsRow : OpenClaim := { program := "ytebbgninkbghlaagreatdoor", sum := "e47c76c560d66e375966311933a78bd7314154b1c01e32a3a9f37a04e8ea6179", func := "notary/notarylaw15.HproofKeeps", spec := "hproofKeeps", inPlace := ["slices.overlaps[notary/api.Pair]", "slices.overlaps[notary/hamt.node]"], unfollowed := true, recurses := true, named := ["notary/sha.words"], apart := false, laid := [("notary/sha.words", laid_notary_sha_words)] }
def HproofKeepsSaid : Prop := hproofKeepsRow.holds Tryz.pinned (OpenSpec.ofChange hproofKeepsSpec)

/-- ITS FALSE NEIGHBOUR: 'it returns false'. Refute it at one input. -/
def hproofKeepsWrong : ChangeSpec := { name := "hproofKeeps", fn := fun _ => fun
  | [d1, d2, d3] => { results := [.lit (.bool false)], args := [d1, d2, d3] }
  | _ => none }
def HproofKeepsWrongFalsely : Prop := hproofKeepsRow.holds Tryz.pinned (OpenSpec.ofChange hproofKeepsWrong)

/-- 'notarylaw15.HproofWalks': WHATEVER THE INPUT: true; the input reads as it did. -/
def hproofWalksSpec : ChangeSpec := { name := "hproofWalks", fn := fun _ => fun
  | [d1, d2, d3] => { results := [.lit (.bool true)], args := [d1, d2, d3] }
  | _ => none }
def hproofWalksRow : OpenClaim := { program := "ytebbgninkbghlaagreatdoor", sum := "e47c76c560d66e375966311933a78bd7314154b1c01e32a3a9f37a04e8ea6179", func := "notary/notarylaw15.HproofWalks", spec := "hproofWalks", inPlace := ["slices.overlaps[notary/api.Pair]", "slices.overlaps[notary/hamt.node]"], unfollowed := true, recurses := true, named := ["notary/sha.words"], apart := false, laid := [("notary/sha.words", laid_notary_sha_words)] }
def HproofWalksSaid : Prop := hproofWalksRow.holds Tryz.pinned (OpenSpec.ofChange hproofWalksSpec)

/-- ITS FALSE NEIGHBOUR: 'it returns false'. Refute it at one input. -/
def hproofWalksWrong : ChangeSpec := { name := "hproofWalks", fn := fun _ => fun
  | [d1, d2, d3] => { results := [.lit (.bool false)], args := [d1, d2, d3] }
  | _ => none }
def HproofWalksWrongFalsely : Prop := hproofWalksRow.holds Tryz.pinned (OpenSpec.ofChange hproofWalksWrong)

/-- 'notarylaw14.HamtMemory': WHATEVER THE INPUT: true; the input reads as it did. -/
def hamtMemorySpec : ChangeSpec := { name := "hamtMemory", fn := fun _ => fun
  | [d1, d2, d3] => { results := [.lit (.bool true)], args := [d1, d2, d3] }
  | _ => none }
def hamtMemoryRow : OpenClaim := { program := "ytebbgninkbghlaagreatdoor", sum := "e47c76c560d66e375966311933a78bd7314154b1c01e32a3a9f37a04e8ea6179", func := "notary/notarylaw14.HamtMemory", spec := "hamtMemory", inPlace := ["slices.overlaps[notary/api.Pair]", "slices.overlaps[notary/hamt.node]"], unfollowed := true, recurses := true, named := ["notary/sha.words"], apart := false, laid := [("notary/sha.words", laid_notary_sha_words)] }
def HamtMemorySaid : Prop := hamtMemoryRow.holds Tryz.pinned (OpenSpec.ofChange hamtMemorySpec)

/-- ITS FALSE NEIGHBOUR: 'it returns false'. Refute it at one input. -/
def hamtMemoryWrong : ChangeSpec := { name := "hamtMemory", fn := fun _ => fun
  | [d1, d2, d3] => { results := [.lit (.bool false)], args := [d1, d2, d3] }
  | _ => none }
def HamtMemoryWrongFalsely : Prop := hamtMemoryRow.holds Tryz.pinned (OpenSpec.ofChange hamtMemoryWrong)

/-- 'notarylaw15.HproofOneSet': WHATEVER THE INPUT: true; the input reads as it did. -/
def hproofOneSetSpec : ChangeSpec := { name := "hproofOneSet", fn := fun _ => fun
  | [d1, d2, d3, d4] => { results := [.lit (.bool true)], args := [d1, d2, d3, d4] }
  | _ => none }
def hproofOneSetRow : OpenClaim := { program := "ytebbgninkbghlaagreatdoor", sum := "e47c76c560d66e375966311933a78bd7314154b1c01e32a3a9f37a04e8ea6179", func := "notary/notarylaw15.HproofOneSet", spec := "hproofOneSet", inPlace := ["slices.overlaps[notary/api.Pair]", "slices.overlaps[notary/hamt.node]"], unfollowed := true, recurses := true, named := ["notary/sha.words"], apart := false, laid := [("notary/sha.words", laid_notary_sha_words)] }
def HproofOneSetSaid : Prop := hproofOneSetRow.holds Tryz.pinned (OpenSpec.ofChange hproofOneSetSpec)

/-- ITS FALSE NEIGHBOUR: 'it returns false'. Refute it at one input. -/
def hproofOneSetWrong : ChangeSpec := { name := "hproofOneSet", fn := fun _ => fun
  | [d1, d2, d3, d4] => { results := [.lit (.bool false)], args := [d1, d2, d3, d4] }
  | _ => none }
def HproofOneSetWrongFalsely : Prop := hproofOneSetRow.holds Tryz.pinned (OpenSpec.ofChange hproofOneSetWrong)

/-- 'notarytop.WholeShown': WHATEVER THE INPUT: true; the input reads as it did. -/
def wholeShownSpec : ChangeSpec := { name := "wholeShown", fn := fun _ => fun
  | [d1, d2, d3, d4] => { results := [.lit (.bool true)], args := [d1, d2, d3, d4] }
  | _ => none }
def wholeShownRow : OpenClaim := { program := "ytebbgninkbghlaagreatdoor", sum := "e47c76c560d66e375966311933a78bd7314154b1c01e32a3a9f37a04e8ea6179", func := "notary/notarytop.WholeShown", spec := "wholeShown", inPlace := ["slices.overlaps[notary/api.Pair]", "slices.overlaps[notary/hamt.node]", "internal/bytealg.Compare", "slices.overlaps[notary/api.Digest]"], unfollowed := true, recurses := true, named := ["notary/sha.words"], apart := false, laid := [("notary/sha.words", laid_notary_sha_words)] }
def WholeShownSaid : Prop := wholeShownRow.holds Tryz.pinned (OpenSpec.ofChange wholeShownSpec)

/-- ITS FALSE NEIGHBOUR: 'it returns false'. Refute it at one input. -/
def wholeShownWrong : ChangeSpec := { name := "wholeShown", fn := fun _ => fun
  | [d1, d2, d3, d4] => { results := [.lit (.bool false)], args := [d1, d2, d3, d4] }
  | _ => none }
def WholeShownWrongFalsely : Prop := wholeShownRow.holds Tryz.pinned (OpenSpec.ofChange wholeShownWrong)

/-- 'notarylaw16.HcheckHonest': WHATEVER THE INPUT: true; the input reads as it did. -/
def hcheckHonestSpec : ChangeSpec := { name := "hcheckHonest", fn := fun _ => fun
  | [d1, d2, d3] => { results := [.lit (.bool true)], args := [d1, d2, d3] }
  | _ => none }
def hcheckHonestRow : OpenClaim := { program := "ytebbgninkbghlaagreatdoor", sum := "e47c76c560d66e375966311933a78bd7314154b1c01e32a3a9f37a04e8ea6179", func := "notary/notarylaw16.HcheckHonest", spec := "hcheckHonest", inPlace := ["internal/bytealg.Compare", "slices.overlaps[notary/api.Digest]", "slices.overlaps[notary/api.Pair]", "slices.overlaps[notary/hamt.node]"], unfollowed := true, recurses := true, named := ["notary/sha.words"], apart := false, laid := [("notary/sha.words", laid_notary_sha_words)] }
def HcheckHonestSaid : Prop := hcheckHonestRow.holds Tryz.pinned (OpenSpec.ofChange hcheckHonestSpec)

/-- ITS FALSE NEIGHBOUR: 'it returns false'. Refute it at one input. -/
def hcheckHonestWrong : ChangeSpec := { name := "hcheckHonest", fn := fun _ => fun
  | [d1, d2, d3] => { results := [.lit (.bool false)], args := [d1, d2, d3] }
  | _ => none }
def HcheckHonestWrongFalsely : Prop := hcheckHonestRow.holds Tryz.pinned (OpenSpec.ofChange hcheckHonestWrong)

/-- 'notarylaw15.HproofAccepted': WHATEVER THE INPUT: true; the input reads as it did. -/
def hproofAcceptedSpec : ChangeSpec := { name := "hproofAccepted", fn := fun _ => fun
  | [d1, d2, d3] => { results := [.lit (.bool true)], args := [d1, d2, d3] }
  | _ => none }
def hproofAcceptedRow : OpenClaim := { program := "ytebbgninkbghlaagreatdoor", sum := "e47c76c560d66e375966311933a78bd7314154b1c01e32a3a9f37a04e8ea6179", func := "notary/notarylaw15.HproofAccepted", spec := "hproofAccepted", inPlace := ["slices.overlaps[notary/api.Pair]", "slices.overlaps[notary/hamt.node]", "internal/bytealg.Compare", "slices.overlaps[notary/api.Digest]"], unfollowed := true, recurses := true, named := ["notary/sha.words"], apart := false, laid := [("notary/sha.words", laid_notary_sha_words)] }
def HproofAcceptedSaid : Prop := hproofAcceptedRow.holds Tryz.pinned (OpenSpec.ofChange hproofAcceptedSpec)

/-- ITS FALSE NEIGHBOUR: 'it returns false'. Refute it at one input. -/
def hproofAcceptedWrong : ChangeSpec := { name := "hproofAccepted", fn := fun _ => fun
  | [d1, d2, d3] => { results := [.lit (.bool false)], args := [d1, d2, d3] }
  | _ => none }
def HproofAcceptedWrongFalsely : Prop := hproofAcceptedRow.holds Tryz.pinned (OpenSpec.ofChange hproofAcceptedWrong)

/- THE SECOND FORM. 'bulk': how many values and letters a reading holds, each counted each time it is reached (what is shared counts as often as it is met; a slice's spare places count too). A statement '..UptoSaid' is the law's where the arguments, and the package variables that the reading takes, are together of bulk at most 1048576: NARROWER than '..Said'. Prove '..Said' where nothing that the law and all that it calls make is longer than what came in: it says more and counts as full. Else prove '..UptoSaid'. A law counts once. -/
mutual
def uptoBulk {H : Type} : DataW H → Nat
  | .lit (.string bytes) => bytes.length + 1
  | .lit _ => 1
  | .nil => 1
  | .ptr d => uptoBulk d + 1
  | .slice elems spare => uptoBulkAll elems + uptoBulkAll spare + 1
  | .agg parts => uptoBulkAll parts + 1
  | .iface _ d => uptoBulk d + 1
  | .map entries => uptoBulkEntries entries + 1
  | .held _ => 1
def uptoBulkAll {H : Type} : List (DataW H) → Nat
  | [] => 0
  | d :: r => uptoBulk d + uptoBulkAll r
def uptoBulkEntries {H : Type} : List (Lit × DataW H) → Nat
  | [] => 0
  | x :: r => uptoBulkEntry x + uptoBulkEntries r
def uptoBulkEntry {H : Type} : Lit × DataW H → Nat
  | (.string bytes, d) => bytes.length + uptoBulk d + 1
  | (_, d) => uptoBulk d + 1
 end
def uptoSmall : (H : Type) → List (DataW H) → Bool := fun _ ds => decide (uptoBulkAll ds ≤ 1048576)
def OpenSpec.upto (s : _root_.Go.ChangeSpec) : _root_.Go.OpenSpec := { _root_.Go.OpenSpec.ofChange s with cond := some uptoSmall }

/-- 'notarylaw16.HcheckKeeps', WHERE WHAT IT READS IS OF BULK AT MOST 1048576: true; the input reads as it did. -/
def hcheckKeepsUptoRow : OpenClaim := { program := "ytebbgninkbghlaagreatdoor", sum := "e47c76c560d66e375966311933a78bd7314154b1c01e32a3a9f37a04e8ea6179", func := "notary/notarylaw16.HcheckKeeps", spec := "hcheckKeeps", inPlace := ["internal/bytealg.Compare", "slices.overlaps[notary/api.Digest]"], unfollowed := true, recurses := true, named := ["notary/sha.words"], apart := false, laid := [("notary/sha.words", laid_notary_sha_words)], narrowed := true }
def HcheckKeepsUptoSaid : Prop := hcheckKeepsUptoRow.holds Tryz.pinned (OpenSpec.upto hcheckKeepsSpec)

/-- 'notarylaw15.HproofProves', WHERE WHAT IT READS IS OF BULK AT MOST 1048576: true; the input reads as it did. -/
def hproofProvesUptoRow : OpenClaim := { program := "ytebbgninkbghlaagreatdoor", sum := "e47c76c560d66e375966311933a78bd7314154b1c01e32a3a9f37a04e8ea6179", func := "notary/notarylaw15.HproofProves", spec := "hproofProves", inPlace := ["slices.overlaps[notary/api.Pair]", "slices.overlaps[notary/hamt.node]"], unfollowed := true, recurses := true, named := ["notary/sha.words"], apart := false, laid := [("notary/sha.words", laid_notary_sha_words)], narrowed := true }
def HproofProvesUptoSaid : Prop := hproofProvesUptoRow.holds Tryz.pinned (OpenSpec.upto hproofProvesSpec)

/-- 'notarylaw15.HproofSizes', WHERE WHAT IT READS IS OF BULK AT MOST 1048576: true; the input reads as it did. -/
def hproofSizesUptoRow : OpenClaim := { program := "ytebbgninkbghlaagreatdoor", sum := "e47c76c560d66e375966311933a78bd7314154b1c01e32a3a9f37a04e8ea6179", func := "notary/notarylaw15.HproofSizes", spec := "hproofSizes", inPlace := ["slices.overlaps[notary/api.Pair]", "slices.overlaps[notary/hamt.node]"], unfollowed := true, recurses := true, named := ["notary/sha.words"], apart := false, laid := [("notary/sha.words", laid_notary_sha_words)], narrowed := true }
def HproofSizesUptoSaid : Prop := hproofSizesUptoRow.holds Tryz.pinned (OpenSpec.upto hproofSizesSpec)

/-- 'notarylaw15.HproofNil', WHERE WHAT IT READS IS OF BULK AT MOST 1048576: true; the input reads as it did. -/
def hproofNilUptoRow : OpenClaim := { program := "ytebbgninkbghlaagreatdoor", sum := "e47c76c560d66e375966311933a78bd7314154b1c01e32a3a9f37a04e8ea6179", func := "notary/notarylaw15.HproofNil", spec := "hproofNil", inPlace := ["slices.overlaps[notary/api.Pair]", "slices.overlaps[notary/hamt.node]"], unfollowed := true, recurses := true, named := ["notary/sha.words"], apart := false, laid := [("notary/sha.words", laid_notary_sha_words)], narrowed := true }
def HproofNilUptoSaid : Prop := hproofNilUptoRow.holds Tryz.pinned (OpenSpec.upto hproofNilSpec)

/-- 'notarylaw15.HproofKeeps', WHERE WHAT IT READS IS OF BULK AT MOST 1048576: true; the input reads as it did. -/
def hproofKeepsUptoRow : OpenClaim := { program := "ytebbgninkbghlaagreatdoor", sum := "e47c76c560d66e375966311933a78bd7314154b1c01e32a3a9f37a04e8ea6179", func := "notary/notarylaw15.HproofKeeps", spec := "hproofKeeps", inPlace := ["slices.overlaps[notary/api.Pair]", "slices.overlaps[notary/hamt.node]"], unfollowed := true, recurses := true, named := ["notary/sha.words"], apart := false, laid := [("notary/sha.words", laid_notary_sha_words)], narrowed := true }
def HproofKeepsUptoSaid : Prop := hproofKeepsUptoRow.holds Tryz.pinned (OpenSpec.upto hproofKeepsSpec)

/-- 'notarylaw15.HproofWalks', WHERE WHAT IT READS IS OF BULK AT MOST 1048576: true; the input reads as it did. -/
def hproofWalksUptoRow : OpenClaim := { program := "ytebbgninkbghlaagreatdoor", sum := "e47c76c560d66e375966311933a78bd7314154b1c01e32a3a9f37a04e8ea6179", func := "notary/notarylaw15.HproofWalks", spec := "hproofWalks", inPlace := ["slices.overlaps[notary/api.Pair]", "slices.overlaps[notary/hamt.node]"], unfollowed := true, recurses := true, named := ["notary/sha.words"], apart := false, laid := [("notary/sha.words", laid_notary_sha_words)], narrowed := true }
def HproofWalksUptoSaid : Prop := hproofWalksUptoRow.holds Tryz.pinned (OpenSpec.upto hproofWalksSpec)

/-- 'notarylaw14.HamtMemory', WHERE WHAT IT READS IS OF BULK AT MOST 1048576: true; the input reads as it did. -/
def hamtMemoryUptoRow : OpenClaim := { program := "ytebbgninkbghlaagreatdoor", sum := "e47c76c560d66e375966311933a78bd7314154b1c01e32a3a9f37a04e8ea6179", func := "notary/notarylaw14.HamtMemory", spec := "hamtMemory", inPlace := ["slices.overlaps[notary/api.Pair]", "slices.overlaps[notary/hamt.node]"], unfollowed := true, recurses := true, named := ["notary/sha.words"], apart := false, laid := [("notary/sha.words", laid_notary_sha_words)], narrowed := true }
def HamtMemoryUptoSaid : Prop := hamtMemoryUptoRow.holds Tryz.pinned (OpenSpec.upto hamtMemorySpec)

/-- 'notarylaw15.HproofOneSet', WHERE WHAT IT READS IS OF BULK AT MOST 1048576: true; the input reads as it did. -/
def hproofOneSetUptoRow : OpenClaim := { program := "ytebbgninkbghlaagreatdoor", sum := "e47c76c560d66e375966311933a78bd7314154b1c01e32a3a9f37a04e8ea6179", func := "notary/notarylaw15.HproofOneSet", spec := "hproofOneSet", inPlace := ["slices.overlaps[notary/api.Pair]", "slices.overlaps[notary/hamt.node]"], unfollowed := true, recurses := true, named := ["notary/sha.words"], apart := false, laid := [("notary/sha.words", laid_notary_sha_words)], narrowed := true }
def HproofOneSetUptoSaid : Prop := hproofOneSetUptoRow.holds Tryz.pinned (OpenSpec.upto hproofOneSetSpec)

/-- 'notarytop.WholeShown', WHERE WHAT IT READS IS OF BULK AT MOST 1048576: true; the input reads as it did. -/
def wholeShownUptoRow : OpenClaim := { program := "ytebbgninkbghlaagreatdoor", sum := "e47c76c560d66e375966311933a78bd7314154b1c01e32a3a9f37a04e8ea6179", func := "notary/notarytop.WholeShown", spec := "wholeShown", inPlace := ["slices.overlaps[notary/api.Pair]", "slices.overlaps[notary/hamt.node]", "internal/bytealg.Compare", "slices.overlaps[notary/api.Digest]"], unfollowed := true, recurses := true, named := ["notary/sha.words"], apart := false, laid := [("notary/sha.words", laid_notary_sha_words)], narrowed := true }
def WholeShownUptoSaid : Prop := wholeShownUptoRow.holds Tryz.pinned (OpenSpec.upto wholeShownSpec)

/-- 'notarylaw16.HcheckHonest', WHERE WHAT IT READS IS OF BULK AT MOST 1048576: true; the input reads as it did. -/
def hcheckHonestUptoRow : OpenClaim := { program := "ytebbgninkbghlaagreatdoor", sum := "e47c76c560d66e375966311933a78bd7314154b1c01e32a3a9f37a04e8ea6179", func := "notary/notarylaw16.HcheckHonest", spec := "hcheckHonest", inPlace := ["internal/bytealg.Compare", "slices.overlaps[notary/api.Digest]", "slices.overlaps[notary/api.Pair]", "slices.overlaps[notary/hamt.node]"], unfollowed := true, recurses := true, named := ["notary/sha.words"], apart := false, laid := [("notary/sha.words", laid_notary_sha_words)], narrowed := true }
def HcheckHonestUptoSaid : Prop := hcheckHonestUptoRow.holds Tryz.pinned (OpenSpec.upto hcheckHonestSpec)

/-- 'notarylaw15.HproofAccepted', WHERE WHAT IT READS IS OF BULK AT MOST 1048576: true; the input reads as it did. -/
def hproofAcceptedUptoRow : OpenClaim := { program := "ytebbgninkbghlaagreatdoor", sum := "e47c76c560d66e375966311933a78bd7314154b1c01e32a3a9f37a04e8ea6179", func := "notary/notarylaw15.HproofAccepted", spec := "hproofAccepted", inPlace := ["slices.overlaps[notary/api.Pair]", "slices.overlaps[notary/hamt.node]", "internal/bytealg.Compare", "slices.overlaps[notary/api.Digest]"], unfollowed := true, recurses := true, named := ["notary/sha.words"], apart := false, laid := [("notary/sha.words", laid_notary_sha_words)], narrowed := true }
def HproofAcceptedUptoSaid : Prop := hproofAcceptedUptoRow.holds Tryz.pinned (OpenSpec.upto hproofAcceptedSpec)

end Rows
end Go.Proofs.YtebbgninkbghlaaGreatDoor
