/-
  NARROWER THAN 'FOR EVERY INPUT', by the rows' own cells (each row's printed sentence says how): HcheckKeeps: laid · HproofKeeps: laid · HamtMemory: laid · WholeShown: laid · SnapWalks: laid · SnapRoots: laid · SnapGrows: laid · SnapReads: laid · ProofEncodes: laid · ProofVerifies: laid · ProofForms: laid · ProofFixed: laid.
  DERIVED. THE GIVEN ROWS OF THIS SEAT. 12 by the template 'for every input the law returns true; each argument reads behind the call as it read before'; 0 by the template 'total and deterministic' (their statements: YthlkfjoibjhaiaaGreatDoorTotals.lean).
  GIVEN WITH THE SEED: the statements are not yours to turn. If you find one false, say at which input.
  Laid BY PROGRAM, IN A SANDBOX (cutbox-rows.mjs): the forced cells as the released guide's own fill.sh prints them over the translation bf484304b14735e4… (all of the seat's roots in one cut). By AI agents, Wed Nov 11 2026. No macro, syntax, notation, axiom, sorry.
-/
import Derived.Test.YthlkfjoibjhaiaaGreatDoorChecked
import GoSem.Claim
import GoSem.ClaimJoined
import GoSem.ClaimMapViews
import Derived.JoinedTies
import Derived.KernelRfl
namespace Go.Proofs.YthlkfjoibjhaiaaGreatDoor
/- THE CELL 'sum', in the pinned program and in every row, IS THE sha256 OF THE DUMP (.gsa) THAT YthlkfjoibjhaiaaGreatDoorProg.lean LOADS. Nothing in Lean hashes anything: it is a label: what it is worth is what the hold of that sum in a sandbox is worth. -/
noncomputable def Tryz.pinned : Pinned := { name := "ythlkfjoibjhaiaagreatdoor", sum := "bf484304b14735e4c57d532d3d6886a5c9e2f6c3962a90d0cf99a16ed1370b37", checked := Tryz.checked }
namespace Rows
def none {H : Type} : Left H := { results := [], args := [] }

/- WHAT THE LISTED PACKAGE-LEVEL VARIABLES READ AS WHEN THE CALL BEGINS. Each datum BY PROGRAM (the guide's laid-datum.mjs) off the statement by which the dump's own 'gosem.cut.vars' lays the variable. In a bare row this is a premise. The card (YthlkfjoibjhaiaaGreatDoorCards.lean) ties it to the program's text. -/
def laid_notary_sha_words {H : Type} : DataW H := .agg [.lit (.int .u32 1116352408), .lit (.int .u32 1899447441), .lit (.int .u32 3049323471), .lit (.int .u32 3921009573), .lit (.int .u32 961987163), .lit (.int .u32 1508970993), .lit (.int .u32 2453635748), .lit (.int .u32 2870763221), .lit (.int .u32 3624381080), .lit (.int .u32 310598401), .lit (.int .u32 607225278), .lit (.int .u32 1426881987), .lit (.int .u32 1925078388), .lit (.int .u32 2162078206), .lit (.int .u32 2614888103), .lit (.int .u32 3248222580), .lit (.int .u32 3835390401), .lit (.int .u32 4022224774), .lit (.int .u32 264347078), .lit (.int .u32 604807628), .lit (.int .u32 770255983), .lit (.int .u32 1249150122), .lit (.int .u32 1555081692), .lit (.int .u32 1996064986), .lit (.int .u32 2554220882), .lit (.int .u32 2821834349), .lit (.int .u32 2952996808), .lit (.int .u32 3210313671), .lit (.int .u32 3336571891), .lit (.int .u32 3584528711), .lit (.int .u32 113926993), .lit (.int .u32 338241895), .lit (.int .u32 666307205), .lit (.int .u32 773529912), .lit (.int .u32 1294757372), .lit (.int .u32 1396182291), .lit (.int .u32 1695183700), .lit (.int .u32 1986661051), .lit (.int .u32 2177026350), .lit (.int .u32 2456956037), .lit (.int .u32 2730485921), .lit (.int .u32 2820302411), .lit (.int .u32 3259730800), .lit (.int .u32 3345764771), .lit (.int .u32 3516065817), .lit (.int .u32 3600352804), .lit (.int .u32 4094571909), .lit (.int .u32 275423344), .lit (.int .u32 430227734), .lit (.int .u32 506948616), .lit (.int .u32 659060556), .lit (.int .u32 883997877), .lit (.int .u32 958139571), .lit (.int .u32 1322822218), .lit (.int .u32 1537002063), .lit (.int .u32 1747873779), .lit (.int .u32 1955562222), .lit (.int .u32 2024104815), .lit (.int .u32 2227730452), .lit (.int .u32 2361852424), .lit (.int .u32 2428436474), .lit (.int .u32 2756734187), .lit (.int .u32 3204031479), .lit (.int .u32 3329325298)]

/-- 'notarylaw16.HcheckKeeps': WHATEVER THE INPUT: true; the input reads as it did. -/
def hcheckKeepsSpec : ChangeSpec := { name := "hcheckKeeps", fn := fun _ => fun
  | [d] => { results := [.lit (.bool true)], args := [d] }
  | _ => none }
def hcheckKeepsRow : OpenClaim := { program := "ythlkfjoibjhaiaagreatdoor", sum := "bf484304b14735e4c57d532d3d6886a5c9e2f6c3962a90d0cf99a16ed1370b37", func := "notary/notarylaw16.HcheckKeeps", spec := "hcheckKeeps", inPlace := ["internal/bytealg.Compare", "slices.overlaps[notary/api.Digest]"], unfollowed := true, recurses := true, named := ["notary/sha.words"], apart := false, laid := [("notary/sha.words", laid_notary_sha_words)] }
def HcheckKeepsSaid : Prop := hcheckKeepsRow.holds Tryz.pinned (OpenSpec.ofChange hcheckKeepsSpec)

/-- ITS FALSE NEIGHBOUR: 'it returns false'. Refute it at one input. -/
def hcheckKeepsWrong : ChangeSpec := { name := "hcheckKeeps", fn := fun _ => fun
  | [d] => { results := [.lit (.bool false)], args := [d] }
  | _ => none }
def HcheckKeepsWrongFalsely : Prop := hcheckKeepsRow.holds Tryz.pinned (OpenSpec.ofChange hcheckKeepsWrong)

/-- 'notarylaw15.HproofKeeps': WHATEVER THE INPUT: true; the input reads as it did. -/
def hproofKeepsSpec : ChangeSpec := { name := "hproofKeeps", fn := fun _ => fun
  | [d1, d2, d3] => { results := [.lit (.bool true)], args := [d1, d2, d3] }
  | _ => none }
def hproofKeepsRow : OpenClaim := { program := "ythlkfjoibjhaiaagreatdoor", sum := "bf484304b14735e4c57d532d3d6886a5c9e2f6c3962a90d0cf99a16ed1370b37", func := "notary/notarylaw15.HproofKeeps", spec := "hproofKeeps", inPlace := ["slices.overlaps[notary/api.Pair]", "slices.overlaps[notary/hamt.node]"], unfollowed := true, recurses := true, named := ["notary/sha.words"], apart := false, laid := [("notary/sha.words", laid_notary_sha_words)] }
def HproofKeepsSaid : Prop := hproofKeepsRow.holds Tryz.pinned (OpenSpec.ofChange hproofKeepsSpec)

/-- ITS FALSE NEIGHBOUR: 'it returns false'. Refute it at one input. -/
def hproofKeepsWrong : ChangeSpec := { name := "hproofKeeps", fn := fun _ => fun
  | [d1, d2, d3] => { results := [.lit (.bool false)], args := [d1, d2, d3] }
  | _ => none }
def HproofKeepsWrongFalsely : Prop := hproofKeepsRow.holds Tryz.pinned (OpenSpec.ofChange hproofKeepsWrong)

/-- 'notarylaw14.HamtMemory': WHATEVER THE INPUT: true; the input reads as it did. -/
def hamtMemorySpec : ChangeSpec := { name := "hamtMemory", fn := fun _ => fun
  | [d1, d2, d3] => { results := [.lit (.bool true)], args := [d1, d2, d3] }
  | _ => none }
def hamtMemoryRow : OpenClaim := { program := "ythlkfjoibjhaiaagreatdoor", sum := "bf484304b14735e4c57d532d3d6886a5c9e2f6c3962a90d0cf99a16ed1370b37", func := "notary/notarylaw14.HamtMemory", spec := "hamtMemory", inPlace := ["slices.overlaps[notary/api.Pair]", "slices.overlaps[notary/hamt.node]"], unfollowed := true, recurses := true, named := ["notary/sha.words"], apart := false, laid := [("notary/sha.words", laid_notary_sha_words)] }
def HamtMemorySaid : Prop := hamtMemoryRow.holds Tryz.pinned (OpenSpec.ofChange hamtMemorySpec)

/-- ITS FALSE NEIGHBOUR: 'it returns false'. Refute it at one input. -/
def hamtMemoryWrong : ChangeSpec := { name := "hamtMemory", fn := fun _ => fun
  | [d1, d2, d3] => { results := [.lit (.bool false)], args := [d1, d2, d3] }
  | _ => none }
def HamtMemoryWrongFalsely : Prop := hamtMemoryRow.holds Tryz.pinned (OpenSpec.ofChange hamtMemoryWrong)

/-- 'notarytop.WholeShown': WHATEVER THE INPUT: true; the input reads as it did. -/
def wholeShownSpec : ChangeSpec := { name := "wholeShown", fn := fun _ => fun
  | [d1, d2, d3, d4] => { results := [.lit (.bool true)], args := [d1, d2, d3, d4] }
  | _ => none }
def wholeShownRow : OpenClaim := { program := "ythlkfjoibjhaiaagreatdoor", sum := "bf484304b14735e4c57d532d3d6886a5c9e2f6c3962a90d0cf99a16ed1370b37", func := "notary/notarytop.WholeShown", spec := "wholeShown", inPlace := ["slices.overlaps[notary/api.Pair]", "slices.overlaps[notary/hamt.node]", "internal/bytealg.Compare", "slices.overlaps[notary/api.Digest]"], unfollowed := true, recurses := true, named := ["notary/sha.words"], apart := false, laid := [("notary/sha.words", laid_notary_sha_words)] }
def WholeShownSaid : Prop := wholeShownRow.holds Tryz.pinned (OpenSpec.ofChange wholeShownSpec)

/-- ITS FALSE NEIGHBOUR: 'it returns false'. Refute it at one input. -/
def wholeShownWrong : ChangeSpec := { name := "wholeShown", fn := fun _ => fun
  | [d1, d2, d3, d4] => { results := [.lit (.bool false)], args := [d1, d2, d3, d4] }
  | _ => none }
def WholeShownWrongFalsely : Prop := wholeShownRow.holds Tryz.pinned (OpenSpec.ofChange wholeShownWrong)

/-- 'notarylaw19.SnapWalks': WHATEVER THE INPUT: true; the input reads as it did. -/
def snapWalksSpec : ChangeSpec := { name := "snapWalks", fn := fun _ => fun
  | [d1, d2] => { results := [.lit (.bool true)], args := [d1, d2] }
  | _ => none }
def snapWalksRow : OpenClaim := { program := "ythlkfjoibjhaiaagreatdoor", sum := "bf484304b14735e4c57d532d3d6886a5c9e2f6c3962a90d0cf99a16ed1370b37", func := "notary/notarylaw19.SnapWalks", spec := "snapWalks", inPlace := ["slices.overlaps[notary/api.Pair]", "slices.overlaps[notary/hamt.node]"], unfollowed := true, recurses := true, named := ["notary/sha.words"], apart := false, laid := [("notary/sha.words", laid_notary_sha_words)] }
def SnapWalksSaid : Prop := snapWalksRow.holds Tryz.pinned (OpenSpec.ofChange snapWalksSpec)

/-- ITS FALSE NEIGHBOUR: 'it returns false'. Refute it at one input. -/
def snapWalksWrong : ChangeSpec := { name := "snapWalks", fn := fun _ => fun
  | [d1, d2] => { results := [.lit (.bool false)], args := [d1, d2] }
  | _ => none }
def SnapWalksWrongFalsely : Prop := snapWalksRow.holds Tryz.pinned (OpenSpec.ofChange snapWalksWrong)

/-- 'notarylaw19.SnapRoots': WHATEVER THE INPUT: true; the input reads as it did. -/
def snapRootsSpec : ChangeSpec := { name := "snapRoots", fn := fun _ => fun
  | [d1, d2] => { results := [.lit (.bool true)], args := [d1, d2] }
  | _ => none }
def snapRootsRow : OpenClaim := { program := "ythlkfjoibjhaiaagreatdoor", sum := "bf484304b14735e4c57d532d3d6886a5c9e2f6c3962a90d0cf99a16ed1370b37", func := "notary/notarylaw19.SnapRoots", spec := "snapRoots", inPlace := ["slices.overlaps[notary/api.Pair]", "slices.overlaps[notary/hamt.node]"], unfollowed := true, recurses := true, named := ["notary/sha.words"], apart := false, laid := [("notary/sha.words", laid_notary_sha_words)] }
def SnapRootsSaid : Prop := snapRootsRow.holds Tryz.pinned (OpenSpec.ofChange snapRootsSpec)

/-- ITS FALSE NEIGHBOUR: 'it returns false'. Refute it at one input. -/
def snapRootsWrong : ChangeSpec := { name := "snapRoots", fn := fun _ => fun
  | [d1, d2] => { results := [.lit (.bool false)], args := [d1, d2] }
  | _ => none }
def SnapRootsWrongFalsely : Prop := snapRootsRow.holds Tryz.pinned (OpenSpec.ofChange snapRootsWrong)

/-- 'notarylaw19.SnapGrows': WHATEVER THE INPUT: true; the input reads as it did. -/
def snapGrowsSpec : ChangeSpec := { name := "snapGrows", fn := fun _ => fun
  | [d1, d2] => { results := [.lit (.bool true)], args := [d1, d2] }
  | _ => none }
def snapGrowsRow : OpenClaim := { program := "ythlkfjoibjhaiaagreatdoor", sum := "bf484304b14735e4c57d532d3d6886a5c9e2f6c3962a90d0cf99a16ed1370b37", func := "notary/notarylaw19.SnapGrows", spec := "snapGrows", inPlace := ["slices.overlaps[notary/api.Pair]", "slices.overlaps[notary/hamt.node]"], unfollowed := true, recurses := true, named := ["notary/sha.words"], apart := false, laid := [("notary/sha.words", laid_notary_sha_words)] }
def SnapGrowsSaid : Prop := snapGrowsRow.holds Tryz.pinned (OpenSpec.ofChange snapGrowsSpec)

/-- ITS FALSE NEIGHBOUR: 'it returns false'. Refute it at one input. -/
def snapGrowsWrong : ChangeSpec := { name := "snapGrows", fn := fun _ => fun
  | [d1, d2] => { results := [.lit (.bool false)], args := [d1, d2] }
  | _ => none }
def SnapGrowsWrongFalsely : Prop := snapGrowsRow.holds Tryz.pinned (OpenSpec.ofChange snapGrowsWrong)

/-- 'notarylaw19.SnapReads': WHATEVER THE INPUT: true; the input reads as it did. -/
def snapReadsSpec : ChangeSpec := { name := "snapReads", fn := fun _ => fun
  | [d1, d2, d3] => { results := [.lit (.bool true)], args := [d1, d2, d3] }
  | _ => none }
def snapReadsRow : OpenClaim := { program := "ythlkfjoibjhaiaagreatdoor", sum := "bf484304b14735e4c57d532d3d6886a5c9e2f6c3962a90d0cf99a16ed1370b37", func := "notary/notarylaw19.SnapReads", spec := "snapReads", inPlace := ["slices.overlaps[notary/api.Pair]", "slices.overlaps[notary/hamt.node]"], unfollowed := true, recurses := true, named := ["notary/sha.words"], apart := false, laid := [("notary/sha.words", laid_notary_sha_words)] }
def SnapReadsSaid : Prop := snapReadsRow.holds Tryz.pinned (OpenSpec.ofChange snapReadsSpec)

/-- ITS FALSE NEIGHBOUR: 'it returns false'. Refute it at one input. -/
def snapReadsWrong : ChangeSpec := { name := "snapReads", fn := fun _ => fun
  | [d1, d2, d3] => { results := [.lit (.bool false)], args := [d1, d2, d3] }
  | _ => none }
def SnapReadsWrongFalsely : Prop := snapReadsRow.holds Tryz.pinned (OpenSpec.ofChange snapReadsWrong)

/-- 'notarylaw17.ProofEncodes': WHATEVER THE INPUT: true; the input reads as it did. -/
def proofEncodesSpec : ChangeSpec := { name := "proofEncodes", fn := fun _ => fun
  | [d1, d2] => { results := [.lit (.bool true)], args := [d1, d2] }
  | _ => none }
def proofEncodesRow : OpenClaim := { program := "ythlkfjoibjhaiaagreatdoor", sum := "bf484304b14735e4c57d532d3d6886a5c9e2f6c3962a90d0cf99a16ed1370b37", func := "notary/notarylaw17.ProofEncodes", spec := "proofEncodes", inPlace := ["internal/bytealg.Compare", "slices.overlaps[notary/api.Digest]"], unfollowed := true, recurses := true, named := ["notary/sha.words"], apart := false, laid := [("notary/sha.words", laid_notary_sha_words)] }
def ProofEncodesSaid : Prop := proofEncodesRow.holds Tryz.pinned (OpenSpec.ofChange proofEncodesSpec)

/-- ITS FALSE NEIGHBOUR: 'it returns false'. Refute it at one input. -/
def proofEncodesWrong : ChangeSpec := { name := "proofEncodes", fn := fun _ => fun
  | [d1, d2] => { results := [.lit (.bool false)], args := [d1, d2] }
  | _ => none }
def ProofEncodesWrongFalsely : Prop := proofEncodesRow.holds Tryz.pinned (OpenSpec.ofChange proofEncodesWrong)

/-- 'notarylaw17.ProofVerifies': WHATEVER THE INPUT: true; the input reads as it did. -/
def proofVerifiesSpec : ChangeSpec := { name := "proofVerifies", fn := fun _ => fun
  | [d1, d2, d3] => { results := [.lit (.bool true)], args := [d1, d2, d3] }
  | _ => none }
def proofVerifiesRow : OpenClaim := { program := "ythlkfjoibjhaiaagreatdoor", sum := "bf484304b14735e4c57d532d3d6886a5c9e2f6c3962a90d0cf99a16ed1370b37", func := "notary/notarylaw17.ProofVerifies", spec := "proofVerifies", inPlace := ["internal/bytealg.Compare", "slices.overlaps[notary/api.Digest]"], unfollowed := true, recurses := true, named := ["notary/sha.words"], apart := false, laid := [("notary/sha.words", laid_notary_sha_words)] }
def ProofVerifiesSaid : Prop := proofVerifiesRow.holds Tryz.pinned (OpenSpec.ofChange proofVerifiesSpec)

/-- ITS FALSE NEIGHBOUR: 'it returns false'. Refute it at one input. -/
def proofVerifiesWrong : ChangeSpec := { name := "proofVerifies", fn := fun _ => fun
  | [d1, d2, d3] => { results := [.lit (.bool false)], args := [d1, d2, d3] }
  | _ => none }
def ProofVerifiesWrongFalsely : Prop := proofVerifiesRow.holds Tryz.pinned (OpenSpec.ofChange proofVerifiesWrong)

/-- 'notarylaw17.ProofForms': WHATEVER THE INPUT: true; the input reads as it did. -/
def proofFormsSpec : ChangeSpec := { name := "proofForms", fn := fun _ => fun
  | [d1, d2, d3] => { results := [.lit (.bool true)], args := [d1, d2, d3] }
  | _ => none }
def proofFormsRow : OpenClaim := { program := "ythlkfjoibjhaiaagreatdoor", sum := "bf484304b14735e4c57d532d3d6886a5c9e2f6c3962a90d0cf99a16ed1370b37", func := "notary/notarylaw17.ProofForms", spec := "proofForms", inPlace := ["internal/bytealg.Compare", "slices.overlaps[notary/api.Digest]"], unfollowed := true, recurses := true, named := ["notary/sha.words"], apart := false, laid := [("notary/sha.words", laid_notary_sha_words)] }
def ProofFormsSaid : Prop := proofFormsRow.holds Tryz.pinned (OpenSpec.ofChange proofFormsSpec)

/-- ITS FALSE NEIGHBOUR: 'it returns false'. Refute it at one input. -/
def proofFormsWrong : ChangeSpec := { name := "proofForms", fn := fun _ => fun
  | [d1, d2, d3] => { results := [.lit (.bool false)], args := [d1, d2, d3] }
  | _ => none }
def ProofFormsWrongFalsely : Prop := proofFormsRow.holds Tryz.pinned (OpenSpec.ofChange proofFormsWrong)

/-- 'notarylaw17.ProofFixed': WHATEVER THE INPUT: true; the input reads as it did. -/
def proofFixedSpec : ChangeSpec := { name := "proofFixed", fn := fun _ => fun
  | [] => { results := [.lit (.bool true)], args := [] }
  | _ => none }
def proofFixedRow : OpenClaim := { program := "ythlkfjoibjhaiaagreatdoor", sum := "bf484304b14735e4c57d532d3d6886a5c9e2f6c3962a90d0cf99a16ed1370b37", func := "notary/notarylaw17.ProofFixed", spec := "proofFixed", inPlace := ["internal/bytealg.Compare", "slices.overlaps[notary/api.Digest]"], unfollowed := true, recurses := true, named := ["notary/sha.words"], apart := false, laid := [("notary/sha.words", laid_notary_sha_words)] }
def ProofFixedSaid : Prop := proofFixedRow.holds Tryz.pinned (OpenSpec.ofChange proofFixedSpec)

/-- ITS FALSE NEIGHBOUR: 'it returns false'. Refute it at one input. -/
def proofFixedWrong : ChangeSpec := { name := "proofFixed", fn := fun _ => fun
  | [] => { results := [.lit (.bool false)], args := [] }
  | _ => none }
def ProofFixedWrongFalsely : Prop := proofFixedRow.holds Tryz.pinned (OpenSpec.ofChange proofFixedWrong)

/- THE SECOND FORM. 'bulk': how many values and letters a reading holds, each counted each time it is reached (what is shared counts as often as it is met; a slice's spare places count too). A statement '..UptoSaid' is the law's where the arguments, and the package variables that the reading takes, are together of bulk at most 1048576: NARROWER than '..Said'. Prove '..Said' where nothing that the law and all that it calls make is longer than what came in: it says more and counts as full. Else prove '..UptoSaid'. A law counts once. -/
mutual
def uptoBulk {H : Type} : DataW H → Nat
  | .lit (.string bytes) => bytes.length + 1
  | .lit _ => 1
  | .nil => 1
  | .ptr d => uptoBulk d + 1
  | .slice elems spare => uptoBulkAll elems + uptoBulkAll spare + 1
  | .agg parts => uptoBulkAll parts + 1
  | .iface _ d => uptoBulk d + 1
  | .map entries => uptoBulkEntries entries + 1
  | .held _ => 1
def uptoBulkAll {H : Type} : List (DataW H) → Nat
  | [] => 0
  | d :: r => uptoBulk d + uptoBulkAll r
def uptoBulkEntries {H : Type} : List (Lit × DataW H) → Nat
  | [] => 0
  | x :: r => uptoBulkEntry x + uptoBulkEntries r
def uptoBulkEntry {H : Type} : Lit × DataW H → Nat
  | (.string bytes, d) => bytes.length + uptoBulk d + 1
  | (_, d) => uptoBulk d + 1
 end
def uptoSmall : (H : Type) → List (DataW H) → Bool := fun _ ds => decide (uptoBulkAll ds ≤ 1048576)
def OpenSpec.upto (s : _root_.Go.ChangeSpec) : _root_.Go.OpenSpec := { _root_.Go.OpenSpec.ofChange s with cond := some uptoSmall }

/-- 'notarylaw16.HcheckKeeps', WHERE WHAT IT READS IS OF BULK AT MOST 1048576: true; the input reads as it did. -/
def hcheckKeepsUptoRow : OpenClaim := { program := "ythlkfjoibjhaiaagreatdoor", sum := "bf484304b14735e4c57d532d3d6886a5c9e2f6c3962a90d0cf99a16ed1370b37", func := "notary/notarylaw16.HcheckKeeps", spec := "hcheckKeeps", inPlace := ["internal/bytealg.Compare", "slices.overlaps[notary/api.Digest]"], unfollowed := true, recurses := true, named := ["notary/sha.words"], apart := false, laid := [("notary/sha.words", laid_notary_sha_words)], narrowed := true }
def HcheckKeepsUptoSaid : Prop := hcheckKeepsUptoRow.holds Tryz.pinned (OpenSpec.upto hcheckKeepsSpec)

/-- 'notarylaw15.HproofKeeps', WHERE WHAT IT READS IS OF BULK AT MOST 1048576: true; the input reads as it did. -/
def hproofKeepsUptoRow : OpenClaim := { program := "ythlkfjoibjhaiaagreatdoor", sum := "bf484304b14735e4c57d532d3d6886a5c9e2f6c3962a90d0cf99a16ed1370b37", func := "notary/notarylaw15.HproofKeeps", spec := "hproofKeeps", inPlace := ["slices.overlaps[notary/api.Pair]", "slices.overlaps[notary/hamt.node]"], unfollowed := true, recurses := true, named := ["notary/sha.words"], apart := false, laid := [("notary/sha.words", laid_notary_sha_words)], narrowed := true }
def HproofKeepsUptoSaid : Prop := hproofKeepsUptoRow.holds Tryz.pinned (OpenSpec.upto hproofKeepsSpec)

/-- 'notarylaw14.HamtMemory', WHERE WHAT IT READS IS OF BULK AT MOST 1048576: true; the input reads as it did. -/
def hamtMemoryUptoRow : OpenClaim := { program := "ythlkfjoibjhaiaagreatdoor", sum := "bf484304b14735e4c57d532d3d6886a5c9e2f6c3962a90d0cf99a16ed1370b37", func := "notary/notarylaw14.HamtMemory", spec := "hamtMemory", inPlace := ["slices.overlaps[notary/api.Pair]", "slices.overlaps[notary/hamt.node]"], unfollowed := true, recurses := true, named := ["notary/sha.words"], apart := false, laid := [("notary/sha.words", laid_notary_sha_words)], narrowed := true }
def HamtMemoryUptoSaid : Prop := hamtMemoryUptoRow.holds Tryz.pinned (OpenSpec.upto hamtMemorySpec)

/-- 'notarytop.WholeShown', WHERE WHAT IT READS IS OF BULK AT MOST 1048576: true; the input reads as it did. -/
def wholeShownUptoRow : OpenClaim := { program := "ythlkfjoibjhaiaagreatdoor", sum := "bf484304b14735e4c57d532d3d6886a5c9e2f6c3962a90d0cf99a16ed1370b37", func := "notary/notarytop.WholeShown", spec := "wholeShown", inPlace := ["slices.overlaps[notary/api.Pair]", "slices.overlaps[notary/hamt.node]", "internal/bytealg.Compare", "slices.overlaps[notary/api.Digest]"], unfollowed := true, recurses := true, named := ["notary/sha.words"], apart := false, laid := [("notary/sha.words", laid_notary_sha_words)], narrowed := true }
def WholeShownUptoSaid : Prop := wholeShownUptoRow.holds Tryz.pinned (OpenSpec.upto wholeShownSpec)

/-- 'notarylaw19.SnapWalks', WHERE WHAT IT READS IS OF BULK AT MOST 1048576: true; the input reads as it did. -/
def snapWalksUptoRow : OpenClaim := { program := "ythlkfjoibjhaiaagreatdoor", sum := "bf484304b14735e4c57d532d3d6886a5c9e2f6c3962a90d0cf99a16ed1370b37", func := "notary/notarylaw19.SnapWalks", spec := "snapWalks", inPlace := ["slices.overlaps[notary/api.Pair]", "slices.overlaps[notary/hamt.node]"], unfollowed := true, recurses := true, named := ["notary/sha.words"], apart := false, laid := [("notary/sha.words", laid_notary_sha_words)], narrowed := true }
def SnapWalksUptoSaid : Prop := snapWalksUptoRow.holds Tryz.pinned (OpenSpec.upto snapWalksSpec)

/-- 'notarylaw19.SnapRoots', WHERE WHAT IT READS IS OF BULK AT MOST 1048576: true; the input reads as it did. -/
def snapRootsUptoRow : OpenClaim := { program := "ythlkfjoibjhaiaagreatdoor", sum := "bf484304b14735e4c57d532d3d6886a5c9e2f6c3962a90d0cf99a16ed1370b37", func := "notary/notarylaw19.SnapRoots", spec := "snapRoots", inPlace := ["slices.overlaps[notary/api.Pair]", "slices.overlaps[notary/hamt.node]"], unfollowed := true, recurses := true, named := ["notary/sha.words"], apart := false, laid := [("notary/sha.words", laid_notary_sha_words)], narrowed := true }
def SnapRootsUptoSaid : Prop := snapRootsUptoRow.holds Tryz.pinned (OpenSpec.upto snapRootsSpec)

/-- 'notarylaw19.SnapGrows', WHERE WHAT IT READS IS OF BULK AT MOST 1048576: true; the input reads as it did. -/
def snapGrowsUptoRow : OpenClaim := { program := "ythlkfjoibjhaiaagreatdoor", sum := "bf484304b14735e4c57d532d3d6886a5c9e2f6c3962a90d0cf99a16ed1370b37", func := "notary/notarylaw19.SnapGrows", spec := "snapGrows", inPlace := ["slices.overlaps[notary/api.Pair]", "slices.overlaps[notary/hamt.node]"], unfollowed := true, recurses := true, named := ["notary/sha.words"], apart := false, laid := [("notary/sha.words", laid_notary_sha_words)], narrowed := true }
def SnapGrowsUptoSaid : Prop := snapGrowsUptoRow.holds Tryz.pinned (OpenSpec.upto snapGrowsSpec)

/-- 'notarylaw19.SnapReads', WHERE WHAT IT READS IS OF BULK AT MOST 1048576: true; the input reads as it did. -/
def snapReadsUptoRow : OpenClaim := { program := "ythlkfjoibjhaiaagreatdoor", sum := "bf484304b14735e4c57d532d3d6886a5c9e2f6c3962a90d0cf99a16ed1370b37", func := "notary/notarylaw19.SnapReads", spec := "snapReads", inPlace := ["slices.overlaps[notary/api.Pair]", "slices.overlaps[notary/hamt.node]"], unfollowed := true, recurses := true, named := ["notary/sha.words"], apart := false, laid := [("notary/sha.words", laid_notary_sha_words)], narrowed := true }
def SnapReadsUptoSaid : Prop := snapReadsUptoRow.holds Tryz.pinned (OpenSpec.upto snapReadsSpec)

/-- 'notarylaw17.ProofEncodes', WHERE WHAT IT READS IS OF BULK AT MOST 1048576: true; the input reads as it did. -/
def proofEncodesUptoRow : OpenClaim := { program := "ythlkfjoibjhaiaagreatdoor", sum := "bf484304b14735e4c57d532d3d6886a5c9e2f6c3962a90d0cf99a16ed1370b37", func := "notary/notarylaw17.ProofEncodes", spec := "proofEncodes", inPlace := ["internal/bytealg.Compare", "slices.overlaps[notary/api.Digest]"], unfollowed := true, recurses := true, named := ["notary/sha.words"], apart := false, laid := [("notary/sha.words", laid_notary_sha_words)], narrowed := true }
def ProofEncodesUptoSaid : Prop := proofEncodesUptoRow.holds Tryz.pinned (OpenSpec.upto proofEncodesSpec)

/-- 'notarylaw17.ProofVerifies', WHERE WHAT IT READS IS OF BULK AT MOST 1048576: true; the input reads as it did. -/
def proofVerifiesUptoRow : OpenClaim := { program := "ythlkfjoibjhaiaagreatdoor", sum := "bf484304b14735e4c57d532d3d6886a5c9e2f6c3962a90d0cf99a16ed1370b37", func := "notary/notarylaw17.ProofVerifies", spec := "proofVerifies", inPlace := ["internal/bytealg.Compare", "slices.overlaps[notary/api.Digest]"], unfollowed := true, recurses := true, named := ["notary/sha.words"], apart := false, laid := [("notary/sha.words", laid_notary_sha_words)], narrowed := true }
def ProofVerifiesUptoSaid : Prop := proofVerifiesUptoRow.holds Tryz.pinned (OpenSpec.upto proofVerifiesSpec)

/-- 'notarylaw17.ProofForms', WHERE WHAT IT READS IS OF BULK AT MOST 1048576: true; the input reads as it did. -/
def proofFormsUptoRow : OpenClaim := { program := "ythlkfjoibjhaiaagreatdoor", sum := "bf484304b14735e4c57d532d3d6886a5c9e2f6c3962a90d0cf99a16ed1370b37", func := "notary/notarylaw17.ProofForms", spec := "proofForms", inPlace := ["internal/bytealg.Compare", "slices.overlaps[notary/api.Digest]"], unfollowed := true, recurses := true, named := ["notary/sha.words"], apart := false, laid := [("notary/sha.words", laid_notary_sha_words)], narrowed := true }
def ProofFormsUptoSaid : Prop := proofFormsUptoRow.holds Tryz.pinned (OpenSpec.upto proofFormsSpec)

/-- 'notarylaw17.ProofFixed', WHERE WHAT IT READS IS OF BULK AT MOST 1048576: true; the input reads as it did. -/
def proofFixedUptoRow : OpenClaim := { program := "ythlkfjoibjhaiaagreatdoor", sum := "bf484304b14735e4c57d532d3d6886a5c9e2f6c3962a90d0cf99a16ed1370b37", func := "notary/notarylaw17.ProofFixed", spec := "proofFixed", inPlace := ["internal/bytealg.Compare", "slices.overlaps[notary/api.Digest]"], unfollowed := true, recurses := true, named := ["notary/sha.words"], apart := false, laid := [("notary/sha.words", laid_notary_sha_words)], narrowed := true }
def ProofFixedUptoSaid : Prop := proofFixedUptoRow.holds Tryz.pinned (OpenSpec.upto proofFixedSpec)

end Rows
end Go.Proofs.YthlkfjoibjhaiaaGreatDoor
