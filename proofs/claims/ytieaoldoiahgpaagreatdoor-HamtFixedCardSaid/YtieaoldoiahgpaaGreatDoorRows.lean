/-
  NARROWER THAN 'FOR EVERY INPUT', by the rows' own cells (each row's printed sentence says how): HamtFolds: laid · HamtShape: laid · HamtWalks: laid · HamtMemory: laid · HamtPlays: laid · HamtHistory: laid · HamtUndoes: laid · HamtFixed: laid.
  DERIVED. THE GIVEN ROWS OF THIS SEAT. 8 by the template 'for every input the law returns true; each argument reads behind the call as it read before'; 0 by the template 'total and deterministic' (their statements: YtieaoldoiahgpaaGreatDoorTotals.lean).
  GIVEN WITH THE SEED: the statements are not yours to turn. If you find one false, say at which input.
  Laid BY PROGRAM, IN A SANDBOX (cutbox-rows.mjs): the forced cells as the released guide's own fill.sh prints them over the translation cbe842bb947fc329… (all of the seat's roots in one cut). By AI agents, Wed Nov 11 2026. No macro, syntax, notation, axiom, sorry.
-/
import Derived.Test.YtieaoldoiahgpaaGreatDoorChecked
import GoSem.Claim
import GoSem.ClaimJoined
import GoSem.ClaimMapViews
import Derived.JoinedTies
import Derived.KernelRfl
namespace Go.Proofs.YtieaoldoiahgpaaGreatDoor
/- THE CELL 'sum', in the pinned program and in every row, IS THE sha256 OF THE DUMP (.gsa) THAT YtieaoldoiahgpaaGreatDoorProg.lean LOADS. Nothing in Lean hashes anything: it is a label: what it is worth is what the hold of that sum in a sandbox is worth. -/
noncomputable def Tryz.pinned : Pinned := { name := "ytieaoldoiahgpaagreatdoor", sum := "cbe842bb947fc32983bb91655f88fc1175b2b77811bc58cf19214145429316bb", checked := Tryz.checked }
namespace Rows
def none {H : Type} : Left H := { results := [], args := [] }

/- WHAT THE LISTED PACKAGE-LEVEL VARIABLES READ AS WHEN THE CALL BEGINS. Each datum BY PROGRAM (the guide's laid-datum.mjs) off the statement by which the dump's own 'gosem.cut.vars' lays the variable. In a bare row this is a premise. The card (YtieaoldoiahgpaaGreatDoorCards.lean) ties it to the program's text. -/
def laid_notary_sha_words {H : Type} : DataW H := .agg [.lit (.int .u32 1116352408), .lit (.int .u32 1899447441), .lit (.int .u32 3049323471), .lit (.int .u32 3921009573), .lit (.int .u32 961987163), .lit (.int .u32 1508970993), .lit (.int .u32 2453635748), .lit (.int .u32 2870763221), .lit (.int .u32 3624381080), .lit (.int .u32 310598401), .lit (.int .u32 607225278), .lit (.int .u32 1426881987), .lit (.int .u32 1925078388), .lit (.int .u32 2162078206), .lit (.int .u32 2614888103), .lit (.int .u32 3248222580), .lit (.int .u32 3835390401), .lit (.int .u32 4022224774), .lit (.int .u32 264347078), .lit (.int .u32 604807628), .lit (.int .u32 770255983), .lit (.int .u32 1249150122), .lit (.int .u32 1555081692), .lit (.int .u32 1996064986), .lit (.int .u32 2554220882), .lit (.int .u32 2821834349), .lit (.int .u32 2952996808), .lit (.int .u32 3210313671), .lit (.int .u32 3336571891), .lit (.int .u32 3584528711), .lit (.int .u32 113926993), .lit (.int .u32 338241895), .lit (.int .u32 666307205), .lit (.int .u32 773529912), .lit (.int .u32 1294757372), .lit (.int .u32 1396182291), .lit (.int .u32 1695183700), .lit (.int .u32 1986661051), .lit (.int .u32 2177026350), .lit (.int .u32 2456956037), .lit (.int .u32 2730485921), .lit (.int .u32 2820302411), .lit (.int .u32 3259730800), .lit (.int .u32 3345764771), .lit (.int .u32 3516065817), .lit (.int .u32 3600352804), .lit (.int .u32 4094571909), .lit (.int .u32 275423344), .lit (.int .u32 430227734), .lit (.int .u32 506948616), .lit (.int .u32 659060556), .lit (.int .u32 883997877), .lit (.int .u32 958139571), .lit (.int .u32 1322822218), .lit (.int .u32 1537002063), .lit (.int .u32 1747873779), .lit (.int .u32 1955562222), .lit (.int .u32 2024104815), .lit (.int .u32 2227730452), .lit (.int .u32 2361852424), .lit (.int .u32 2428436474), .lit (.int .u32 2756734187), .lit (.int .u32 3204031479), .lit (.int .u32 3329325298)]

/-- 'notarylaw14.HamtFolds': WHATEVER THE INPUT: true; the input reads as it did. -/
def hamtFoldsSpec : ChangeSpec := { name := "hamtFolds", fn := fun _ => fun
  | [d1, d2, d3] => { results := [.lit (.bool true)], args := [d1, d2, d3] }
  | _ => none }
def hamtFoldsRow : OpenClaim := { program := "ytieaoldoiahgpaagreatdoor", sum := "cbe842bb947fc32983bb91655f88fc1175b2b77811bc58cf19214145429316bb", func := "notary/notarylaw14.HamtFolds", spec := "hamtFolds", inPlace := ["slices.overlaps[notary/api.Pair]", "slices.overlaps[notary/hamt.node]"], unfollowed := true, recurses := true, named := ["notary/sha.words"], apart := false, laid := [("notary/sha.words", laid_notary_sha_words)] }
def HamtFoldsSaid : Prop := hamtFoldsRow.holds Tryz.pinned (OpenSpec.ofChange hamtFoldsSpec)

/-- ITS FALSE NEIGHBOUR: 'it returns false'. Refute it at one input. -/
def hamtFoldsWrong : ChangeSpec := { name := "hamtFolds", fn := fun _ => fun
  | [d1, d2, d3] => { results := [.lit (.bool false)], args := [d1, d2, d3] }
  | _ => none }
def HamtFoldsWrongFalsely : Prop := hamtFoldsRow.holds Tryz.pinned (OpenSpec.ofChange hamtFoldsWrong)

/-- 'notarylaw14.HamtShape': WHATEVER THE INPUT: true; the input reads as it did. -/
def hamtShapeSpec : ChangeSpec := { name := "hamtShape", fn := fun _ => fun
  | [d1, d2, d3] => { results := [.lit (.bool true)], args := [d1, d2, d3] }
  | _ => none }
def hamtShapeRow : OpenClaim := { program := "ytieaoldoiahgpaagreatdoor", sum := "cbe842bb947fc32983bb91655f88fc1175b2b77811bc58cf19214145429316bb", func := "notary/notarylaw14.HamtShape", spec := "hamtShape", inPlace := ["slices.overlaps[notary/api.Pair]", "slices.overlaps[notary/hamt.node]"], unfollowed := true, recurses := true, named := ["notary/sha.words"], apart := false, laid := [("notary/sha.words", laid_notary_sha_words)] }
def HamtShapeSaid : Prop := hamtShapeRow.holds Tryz.pinned (OpenSpec.ofChange hamtShapeSpec)

/-- ITS FALSE NEIGHBOUR: 'it returns false'. Refute it at one input. -/
def hamtShapeWrong : ChangeSpec := { name := "hamtShape", fn := fun _ => fun
  | [d1, d2, d3] => { results := [.lit (.bool false)], args := [d1, d2, d3] }
  | _ => none }
def HamtShapeWrongFalsely : Prop := hamtShapeRow.holds Tryz.pinned (OpenSpec.ofChange hamtShapeWrong)

/-- 'notarylaw14.HamtWalks': WHATEVER THE INPUT: true; the input reads as it did. -/
def hamtWalksSpec : ChangeSpec := { name := "hamtWalks", fn := fun _ => fun
  | [d1, d2, d3] => { results := [.lit (.bool true)], args := [d1, d2, d3] }
  | _ => none }
def hamtWalksRow : OpenClaim := { program := "ytieaoldoiahgpaagreatdoor", sum := "cbe842bb947fc32983bb91655f88fc1175b2b77811bc58cf19214145429316bb", func := "notary/notarylaw14.HamtWalks", spec := "hamtWalks", inPlace := ["slices.overlaps[notary/api.Pair]", "slices.overlaps[notary/hamt.node]"], unfollowed := true, recurses := true, named := ["notary/sha.words"], apart := false, laid := [("notary/sha.words", laid_notary_sha_words)] }
def HamtWalksSaid : Prop := hamtWalksRow.holds Tryz.pinned (OpenSpec.ofChange hamtWalksSpec)

/-- ITS FALSE NEIGHBOUR: 'it returns false'. Refute it at one input. -/
def hamtWalksWrong : ChangeSpec := { name := "hamtWalks", fn := fun _ => fun
  | [d1, d2, d3] => { results := [.lit (.bool false)], args := [d1, d2, d3] }
  | _ => none }
def HamtWalksWrongFalsely : Prop := hamtWalksRow.holds Tryz.pinned (OpenSpec.ofChange hamtWalksWrong)

/-- 'notarylaw14.HamtMemory': WHATEVER THE INPUT: true; the input reads as it did. -/
def hamtMemorySpec : ChangeSpec := { name := "hamtMemory", fn := fun _ => fun
  | [d1, d2, d3] => { results := [.lit (.bool true)], args := [d1, d2, d3] }
  | _ => none }
def hamtMemoryRow : OpenClaim := { program := "ytieaoldoiahgpaagreatdoor", sum := "cbe842bb947fc32983bb91655f88fc1175b2b77811bc58cf19214145429316bb", func := "notary/notarylaw14.HamtMemory", spec := "hamtMemory", inPlace := ["slices.overlaps[notary/api.Pair]", "slices.overlaps[notary/hamt.node]"], unfollowed := true, recurses := true, named := ["notary/sha.words"], apart := false, laid := [("notary/sha.words", laid_notary_sha_words)] }
def HamtMemorySaid : Prop := hamtMemoryRow.holds Tryz.pinned (OpenSpec.ofChange hamtMemorySpec)

/-- ITS FALSE NEIGHBOUR: 'it returns false'. Refute it at one input. -/
def hamtMemoryWrong : ChangeSpec := { name := "hamtMemory", fn := fun _ => fun
  | [d1, d2, d3] => { results := [.lit (.bool false)], args := [d1, d2, d3] }
  | _ => none }
def HamtMemoryWrongFalsely : Prop := hamtMemoryRow.holds Tryz.pinned (OpenSpec.ofChange hamtMemoryWrong)

/-- 'notarylaw14.HamtPlays': WHATEVER THE INPUT: true; the input reads as it did. -/
def hamtPlaysSpec : ChangeSpec := { name := "hamtPlays", fn := fun _ => fun
  | [d1, d2] => { results := [.lit (.bool true)], args := [d1, d2] }
  | _ => none }
def hamtPlaysRow : OpenClaim := { program := "ytieaoldoiahgpaagreatdoor", sum := "cbe842bb947fc32983bb91655f88fc1175b2b77811bc58cf19214145429316bb", func := "notary/notarylaw14.HamtPlays", spec := "hamtPlays", inPlace := ["slices.overlaps[notary/api.Pair]", "slices.overlaps[notary/hamt.node]"], unfollowed := true, recurses := true, named := ["notary/sha.words"], apart := false, laid := [("notary/sha.words", laid_notary_sha_words)] }
def HamtPlaysSaid : Prop := hamtPlaysRow.holds Tryz.pinned (OpenSpec.ofChange hamtPlaysSpec)

/-- ITS FALSE NEIGHBOUR: 'it returns false'. Refute it at one input. -/
def hamtPlaysWrong : ChangeSpec := { name := "hamtPlays", fn := fun _ => fun
  | [d1, d2] => { results := [.lit (.bool false)], args := [d1, d2] }
  | _ => none }
def HamtPlaysWrongFalsely : Prop := hamtPlaysRow.holds Tryz.pinned (OpenSpec.ofChange hamtPlaysWrong)

/-- 'notarylaw14.HamtHistory': WHATEVER THE INPUT: true; the input reads as it did. -/
def hamtHistorySpec : ChangeSpec := { name := "hamtHistory", fn := fun _ => fun
  | [d1, d2, d3] => { results := [.lit (.bool true)], args := [d1, d2, d3] }
  | _ => none }
def hamtHistoryRow : OpenClaim := { program := "ytieaoldoiahgpaagreatdoor", sum := "cbe842bb947fc32983bb91655f88fc1175b2b77811bc58cf19214145429316bb", func := "notary/notarylaw14.HamtHistory", spec := "hamtHistory", inPlace := ["slices.overlaps[notary/api.Pair]", "slices.overlaps[notary/hamt.node]"], unfollowed := true, recurses := true, named := ["notary/sha.words"], apart := false, laid := [("notary/sha.words", laid_notary_sha_words)] }
def HamtHistorySaid : Prop := hamtHistoryRow.holds Tryz.pinned (OpenSpec.ofChange hamtHistorySpec)

/-- ITS FALSE NEIGHBOUR: 'it returns false'. Refute it at one input. -/
def hamtHistoryWrong : ChangeSpec := { name := "hamtHistory", fn := fun _ => fun
  | [d1, d2, d3] => { results := [.lit (.bool false)], args := [d1, d2, d3] }
  | _ => none }
def HamtHistoryWrongFalsely : Prop := hamtHistoryRow.holds Tryz.pinned (OpenSpec.ofChange hamtHistoryWrong)

/-- 'notarylaw14.HamtUndoes': WHATEVER THE INPUT: true; the input reads as it did. -/
def hamtUndoesSpec : ChangeSpec := { name := "hamtUndoes", fn := fun _ => fun
  | [d1, d2, d3, d4] => { results := [.lit (.bool true)], args := [d1, d2, d3, d4] }
  | _ => none }
def hamtUndoesRow : OpenClaim := { program := "ytieaoldoiahgpaagreatdoor", sum := "cbe842bb947fc32983bb91655f88fc1175b2b77811bc58cf19214145429316bb", func := "notary/notarylaw14.HamtUndoes", spec := "hamtUndoes", inPlace := ["slices.overlaps[notary/api.Pair]", "slices.overlaps[notary/hamt.node]"], unfollowed := true, recurses := true, named := ["notary/sha.words"], apart := false, laid := [("notary/sha.words", laid_notary_sha_words)] }
def HamtUndoesSaid : Prop := hamtUndoesRow.holds Tryz.pinned (OpenSpec.ofChange hamtUndoesSpec)

/-- ITS FALSE NEIGHBOUR: 'it returns false'. Refute it at one input. -/
def hamtUndoesWrong : ChangeSpec := { name := "hamtUndoes", fn := fun _ => fun
  | [d1, d2, d3, d4] => { results := [.lit (.bool false)], args := [d1, d2, d3, d4] }
  | _ => none }
def HamtUndoesWrongFalsely : Prop := hamtUndoesRow.holds Tryz.pinned (OpenSpec.ofChange hamtUndoesWrong)

/-- 'notarylaw14.HamtFixed': WHATEVER THE INPUT: true; the input reads as it did. -/
def hamtFixedSpec : ChangeSpec := { name := "hamtFixed", fn := fun _ => fun
  | [] => { results := [.lit (.bool true)], args := [] }
  | _ => none }
def hamtFixedRow : OpenClaim := { program := "ytieaoldoiahgpaagreatdoor", sum := "cbe842bb947fc32983bb91655f88fc1175b2b77811bc58cf19214145429316bb", func := "notary/notarylaw14.HamtFixed", spec := "hamtFixed", inPlace := ["slices.overlaps[notary/api.Pair]", "slices.overlaps[notary/hamt.node]"], unfollowed := true, recurses := true, named := ["notary/sha.words"], apart := false, laid := [("notary/sha.words", laid_notary_sha_words)] }
def HamtFixedSaid : Prop := hamtFixedRow.holds Tryz.pinned (OpenSpec.ofChange hamtFixedSpec)

/-- ITS FALSE NEIGHBOUR: 'it returns false'. Refute it at one input. -/
def hamtFixedWrong : ChangeSpec := { name := "hamtFixed", fn := fun _ => fun
  | [] => { results := [.lit (.bool false)], args := [] }
  | _ => none }
def HamtFixedWrongFalsely : Prop := hamtFixedRow.holds Tryz.pinned (OpenSpec.ofChange hamtFixedWrong)

/- THE SECOND FORM. 'bulk': how many values and letters a reading holds, each counted each time it is reached (what is shared counts as often as it is met; a slice's spare places count too). A statement '..UptoSaid' is the law's where the arguments, and the package variables that the reading takes, are together of bulk at most 1048576: NARROWER than '..Said'. Prove '..Said' where nothing that the law and all that it calls make is longer than what came in: it says more and counts as full. Else prove '..UptoSaid'. A law counts once. -/
mutual
def uptoBulk {H : Type} : DataW H → Nat
  | .lit (.string bytes) => bytes.length + 1
  | .lit _ => 1
  | .nil => 1
  | .ptr d => uptoBulk d + 1
  | .slice elems spare => uptoBulkAll elems + uptoBulkAll spare + 1
  | .agg parts => uptoBulkAll parts + 1
  | .iface _ d => uptoBulk d + 1
  | .map entries => uptoBulkEntries entries + 1
  | .held _ => 1
def uptoBulkAll {H : Type} : List (DataW H) → Nat
  | [] => 0
  | d :: r => uptoBulk d + uptoBulkAll r
def uptoBulkEntries {H : Type} : List (Lit × DataW H) → Nat
  | [] => 0
  | x :: r => uptoBulkEntry x + uptoBulkEntries r
def uptoBulkEntry {H : Type} : Lit × DataW H → Nat
  | (.string bytes, d) => bytes.length + uptoBulk d + 1
  | (_, d) => uptoBulk d + 1
 end
def uptoSmall : (H : Type) → List (DataW H) → Bool := fun _ ds => decide (uptoBulkAll ds ≤ 1048576)
def OpenSpec.upto (s : _root_.Go.ChangeSpec) : _root_.Go.OpenSpec := { _root_.Go.OpenSpec.ofChange s with cond := some uptoSmall }

/-- 'notarylaw14.HamtFolds', WHERE WHAT IT READS IS OF BULK AT MOST 1048576: true; the input reads as it did. -/
def hamtFoldsUptoRow : OpenClaim := { program := "ytieaoldoiahgpaagreatdoor", sum := "cbe842bb947fc32983bb91655f88fc1175b2b77811bc58cf19214145429316bb", func := "notary/notarylaw14.HamtFolds", spec := "hamtFolds", inPlace := ["slices.overlaps[notary/api.Pair]", "slices.overlaps[notary/hamt.node]"], unfollowed := true, recurses := true, named := ["notary/sha.words"], apart := false, laid := [("notary/sha.words", laid_notary_sha_words)], narrowed := true }
def HamtFoldsUptoSaid : Prop := hamtFoldsUptoRow.holds Tryz.pinned (OpenSpec.upto hamtFoldsSpec)

/-- 'notarylaw14.HamtShape', WHERE WHAT IT READS IS OF BULK AT MOST 1048576: true; the input reads as it did. -/
def hamtShapeUptoRow : OpenClaim := { program := "ytieaoldoiahgpaagreatdoor", sum := "cbe842bb947fc32983bb91655f88fc1175b2b77811bc58cf19214145429316bb", func := "notary/notarylaw14.HamtShape", spec := "hamtShape", inPlace := ["slices.overlaps[notary/api.Pair]", "slices.overlaps[notary/hamt.node]"], unfollowed := true, recurses := true, named := ["notary/sha.words"], apart := false, laid := [("notary/sha.words", laid_notary_sha_words)], narrowed := true }
def HamtShapeUptoSaid : Prop := hamtShapeUptoRow.holds Tryz.pinned (OpenSpec.upto hamtShapeSpec)

/-- 'notarylaw14.HamtWalks', WHERE WHAT IT READS IS OF BULK AT MOST 1048576: true; the input reads as it did. -/
def hamtWalksUptoRow : OpenClaim := { program := "ytieaoldoiahgpaagreatdoor", sum := "cbe842bb947fc32983bb91655f88fc1175b2b77811bc58cf19214145429316bb", func := "notary/notarylaw14.HamtWalks", spec := "hamtWalks", inPlace := ["slices.overlaps[notary/api.Pair]", "slices.overlaps[notary/hamt.node]"], unfollowed := true, recurses := true, named := ["notary/sha.words"], apart := false, laid := [("notary/sha.words", laid_notary_sha_words)], narrowed := true }
def HamtWalksUptoSaid : Prop := hamtWalksUptoRow.holds Tryz.pinned (OpenSpec.upto hamtWalksSpec)

/-- 'notarylaw14.HamtMemory', WHERE WHAT IT READS IS OF BULK AT MOST 1048576: true; the input reads as it did. -/
def hamtMemoryUptoRow : OpenClaim := { program := "ytieaoldoiahgpaagreatdoor", sum := "cbe842bb947fc32983bb91655f88fc1175b2b77811bc58cf19214145429316bb", func := "notary/notarylaw14.HamtMemory", spec := "hamtMemory", inPlace := ["slices.overlaps[notary/api.Pair]", "slices.overlaps[notary/hamt.node]"], unfollowed := true, recurses := true, named := ["notary/sha.words"], apart := false, laid := [("notary/sha.words", laid_notary_sha_words)], narrowed := true }
def HamtMemoryUptoSaid : Prop := hamtMemoryUptoRow.holds Tryz.pinned (OpenSpec.upto hamtMemorySpec)

/-- 'notarylaw14.HamtPlays', WHERE WHAT IT READS IS OF BULK AT MOST 1048576: true; the input reads as it did. -/
def hamtPlaysUptoRow : OpenClaim := { program := "ytieaoldoiahgpaagreatdoor", sum := "cbe842bb947fc32983bb91655f88fc1175b2b77811bc58cf19214145429316bb", func := "notary/notarylaw14.HamtPlays", spec := "hamtPlays", inPlace := ["slices.overlaps[notary/api.Pair]", "slices.overlaps[notary/hamt.node]"], unfollowed := true, recurses := true, named := ["notary/sha.words"], apart := false, laid := [("notary/sha.words", laid_notary_sha_words)], narrowed := true }
def HamtPlaysUptoSaid : Prop := hamtPlaysUptoRow.holds Tryz.pinned (OpenSpec.upto hamtPlaysSpec)

/-- 'notarylaw14.HamtHistory', WHERE WHAT IT READS IS OF BULK AT MOST 1048576: true; the input reads as it did. -/
def hamtHistoryUptoRow : OpenClaim := { program := "ytieaoldoiahgpaagreatdoor", sum := "cbe842bb947fc32983bb91655f88fc1175b2b77811bc58cf19214145429316bb", func := "notary/notarylaw14.HamtHistory", spec := "hamtHistory", inPlace := ["slices.overlaps[notary/api.Pair]", "slices.overlaps[notary/hamt.node]"], unfollowed := true, recurses := true, named := ["notary/sha.words"], apart := false, laid := [("notary/sha.words", laid_notary_sha_words)], narrowed := true }
def HamtHistoryUptoSaid : Prop := hamtHistoryUptoRow.holds Tryz.pinned (OpenSpec.upto hamtHistorySpec)

/-- 'notarylaw14.HamtUndoes', WHERE WHAT IT READS IS OF BULK AT MOST 1048576: true; the input reads as it did. -/
def hamtUndoesUptoRow : OpenClaim := { program := "ytieaoldoiahgpaagreatdoor", sum := "cbe842bb947fc32983bb91655f88fc1175b2b77811bc58cf19214145429316bb", func := "notary/notarylaw14.HamtUndoes", spec := "hamtUndoes", inPlace := ["slices.overlaps[notary/api.Pair]", "slices.overlaps[notary/hamt.node]"], unfollowed := true, recurses := true, named := ["notary/sha.words"], apart := false, laid := [("notary/sha.words", laid_notary_sha_words)], narrowed := true }
def HamtUndoesUptoSaid : Prop := hamtUndoesUptoRow.holds Tryz.pinned (OpenSpec.upto hamtUndoesSpec)

/-- 'notarylaw14.HamtFixed', WHERE WHAT IT READS IS OF BULK AT MOST 1048576: true; the input reads as it did. -/
def hamtFixedUptoRow : OpenClaim := { program := "ytieaoldoiahgpaagreatdoor", sum := "cbe842bb947fc32983bb91655f88fc1175b2b77811bc58cf19214145429316bb", func := "notary/notarylaw14.HamtFixed", spec := "hamtFixed", inPlace := ["slices.overlaps[notary/api.Pair]", "slices.overlaps[notary/hamt.node]"], unfollowed := true, recurses := true, named := ["notary/sha.words"], apart := false, laid := [("notary/sha.words", laid_notary_sha_words)], narrowed := true }
def HamtFixedUptoSaid : Prop := hamtFixedUptoRow.holds Tryz.pinned (OpenSpec.upto hamtFixedSpec)

end Rows
end Go.Proofs.YtieaoldoiahgpaaGreatDoor
