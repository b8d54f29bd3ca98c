/-
  No cell of these rows narrows 'for every input' (looked for: loops, veiled, ifaces, maps, wideKeys, modest, calm, conditions, laid).
  DERIVED. THE GIVEN ROWS OF THIS SEAT. 8 by the template 'for every input the law returns true; each argument reads behind the call as it read before'; 0 by the template 'total and deterministic' (their statements: YtjmklialkjncaaaTotals.lean).
  GIVEN WITH THE SEED: the statements are not yours to turn. If you find one false, say at which input.
  Laid BY PROGRAM, IN A SANDBOX (cutbox-rows.mjs): the forced cells as the released guide's own fill.sh prints them over the translation 2941fa6fef268512… (all of the seat's roots in one cut). By AI agents, Wed Nov 11 2026. No macro, syntax, notation, axiom, sorry.
-/
import Derived.Test.YtjmklialkjncaaaChecked
import GoSem.Claim
import GoSem.ClaimJoined
import GoSem.ClaimMapViews
import Derived.JoinedTies
import Derived.KernelRfl
namespace Go.Proofs.Ytjmklialkjncaaa
/- THE CELL 'sum', in the pinned program and in every row, IS THE sha256 OF THE DUMP (.gsa) THAT YtjmklialkjncaaaProg.lean LOADS. Nothing in Lean hashes anything: it is a label: what it is worth is what the hold of that sum in a sandbox is worth. -/
noncomputable def Try.pinned : Pinned := { name := "ytjmklialkjncaaa", sum := "2941fa6fef2685122e8734019046847b6164a55799879ff8ac17377ebcee9fce", checked := Try.checked }
namespace Rows
def none {H : Type} : Left H := { results := [], args := [] }

/-- 'skymosaiclaw18.FlowMax': WHATEVER THE INPUT: true; the input reads as it did. -/
def flowMaxSpec : ChangeSpec := { name := "flowMax", fn := fun _ => fun
  | [d1, d2, d3] => { results := [.lit (.bool true)], args := [d1, d2, d3] }
  | _ => none }
def flowMaxRow : OpenClaim := { program := "ytjmklialkjncaaa", sum := "2941fa6fef2685122e8734019046847b6164a55799879ff8ac17377ebcee9fce", func := "skymosaic/skymosaiclaw18.FlowMax", spec := "flowMax", unfollowed := true, recurses := true, apart := false }
def FlowMaxSaid : Prop := flowMaxRow.holds Try.pinned (OpenSpec.ofChange flowMaxSpec)

/-- ITS FALSE NEIGHBOUR: 'it returns false'. Refute it at one input. -/
def flowMaxWrong : ChangeSpec := { name := "flowMax", fn := fun _ => fun
  | [d1, d2, d3] => { results := [.lit (.bool false)], args := [d1, d2, d3] }
  | _ => none }
def FlowMaxWrongFalsely : Prop := flowMaxRow.holds Try.pinned (OpenSpec.ofChange flowMaxWrong)

/-- 'skymosaiclaw18.FlowMore': WHATEVER THE INPUT: true; the input reads as it did. -/
def flowMoreSpec : ChangeSpec := { name := "flowMore", fn := fun _ => fun
  | [d1, d2, d3] => { results := [.lit (.bool true)], args := [d1, d2, d3] }
  | _ => none }
def flowMoreRow : OpenClaim := { program := "ytjmklialkjncaaa", sum := "2941fa6fef2685122e8734019046847b6164a55799879ff8ac17377ebcee9fce", func := "skymosaic/skymosaiclaw18.FlowMore", spec := "flowMore", unfollowed := true, recurses := true, apart := false }
def FlowMoreSaid : Prop := flowMoreRow.holds Try.pinned (OpenSpec.ofChange flowMoreSpec)

/-- ITS FALSE NEIGHBOUR: 'it returns false'. Refute it at one input. -/
def flowMoreWrong : ChangeSpec := { name := "flowMore", fn := fun _ => fun
  | [d1, d2, d3] => { results := [.lit (.bool false)], args := [d1, d2, d3] }
  | _ => none }
def FlowMoreWrongFalsely : Prop := flowMoreRow.holds Try.pinned (OpenSpec.ofChange flowMoreWrong)

/-- 'skymosaiclaw18.FlowCuts': WHATEVER THE INPUT: true; the input reads as it did. -/
def flowCutsSpec : ChangeSpec := { name := "flowCuts", fn := fun _ => fun
  | [d1, d2, d3, d4] => { results := [.lit (.bool true)], args := [d1, d2, d3, d4] }
  | _ => none }
def flowCutsRow : OpenClaim := { program := "ytjmklialkjncaaa", sum := "2941fa6fef2685122e8734019046847b6164a55799879ff8ac17377ebcee9fce", func := "skymosaic/skymosaiclaw18.FlowCuts", spec := "flowCuts", unfollowed := true, recurses := true, apart := false }
def FlowCutsSaid : Prop := flowCutsRow.holds Try.pinned (OpenSpec.ofChange flowCutsSpec)

/-- ITS FALSE NEIGHBOUR: 'it returns false'. Refute it at one input. -/
def flowCutsWrong : ChangeSpec := { name := "flowCuts", fn := fun _ => fun
  | [d1, d2, d3, d4] => { results := [.lit (.bool false)], args := [d1, d2, d3, d4] }
  | _ => none }
def FlowCutsWrongFalsely : Prop := flowCutsRow.holds Try.pinned (OpenSpec.ofChange flowCutsWrong)

/-- 'skymosaiclaw18.FlowDual': WHATEVER THE INPUT: true; the input reads as it did. -/
def flowDualSpec : ChangeSpec := { name := "flowDual", fn := fun _ => fun
  | [d] => { results := [.lit (.bool true)], args := [d] }
  | _ => none }
def flowDualRow : OpenClaim := { program := "ytjmklialkjncaaa", sum := "2941fa6fef2685122e8734019046847b6164a55799879ff8ac17377ebcee9fce", func := "skymosaic/skymosaiclaw18.FlowDual", spec := "flowDual", unfollowed := true, recurses := true, apart := false }
def FlowDualSaid : Prop := flowDualRow.holds Try.pinned (OpenSpec.ofChange flowDualSpec)

/-- ITS FALSE NEIGHBOUR: 'it returns false'. Refute it at one input. -/
def flowDualWrong : ChangeSpec := { name := "flowDual", fn := fun _ => fun
  | [d] => { results := [.lit (.bool false)], args := [d] }
  | _ => none }
def FlowDualWrongFalsely : Prop := flowDualRow.holds Try.pinned (OpenSpec.ofChange flowDualWrong)

/-- 'skymosaiclaw18.FlowProofs': WHATEVER THE INPUT: true; the input reads as it did. -/
def flowProofsSpec : ChangeSpec := { name := "flowProofs", fn := fun _ => fun
  | [d1, d2, d3] => { results := [.lit (.bool true)], args := [d1, d2, d3] }
  | _ => none }
def flowProofsRow : OpenClaim := { program := "ytjmklialkjncaaa", sum := "2941fa6fef2685122e8734019046847b6164a55799879ff8ac17377ebcee9fce", func := "skymosaic/skymosaiclaw18.FlowProofs", spec := "flowProofs", unfollowed := true, recurses := true, apart := false }
def FlowProofsSaid : Prop := flowProofsRow.holds Try.pinned (OpenSpec.ofChange flowProofsSpec)

/-- ITS FALSE NEIGHBOUR: 'it returns false'. Refute it at one input. -/
def flowProofsWrong : ChangeSpec := { name := "flowProofs", fn := fun _ => fun
  | [d1, d2, d3] => { results := [.lit (.bool false)], args := [d1, d2, d3] }
  | _ => none }
def FlowProofsWrongFalsely : Prop := flowProofsRow.holds Try.pinned (OpenSpec.ofChange flowProofsWrong)

/-- 'skymosaiclaw18.FlowPaths': WHATEVER THE INPUT: true; the input reads as it did. -/
def flowPathsSpec : ChangeSpec := { name := "flowPaths", fn := fun _ => fun
  | [d1, d2, d3] => { results := [.lit (.bool true)], args := [d1, d2, d3] }
  | _ => none }
def flowPathsRow : OpenClaim := { program := "ytjmklialkjncaaa", sum := "2941fa6fef2685122e8734019046847b6164a55799879ff8ac17377ebcee9fce", func := "skymosaic/skymosaiclaw18.FlowPaths", spec := "flowPaths", unfollowed := true, recurses := true, apart := false }
def FlowPathsSaid : Prop := flowPathsRow.holds Try.pinned (OpenSpec.ofChange flowPathsSpec)

/-- ITS FALSE NEIGHBOUR: 'it returns false'. Refute it at one input. -/
def flowPathsWrong : ChangeSpec := { name := "flowPaths", fn := fun _ => fun
  | [d1, d2, d3] => { results := [.lit (.bool false)], args := [d1, d2, d3] }
  | _ => none }
def FlowPathsWrongFalsely : Prop := flowPathsRow.holds Try.pinned (OpenSpec.ofChange flowPathsWrong)

/-- 'skymosaiclaw18.FlowWays': WHATEVER THE INPUT: true; the input reads as it did. -/
def flowWaysSpec : ChangeSpec := { name := "flowWays", fn := fun _ => fun
  | [d1, d2] => { results := [.lit (.bool true)], args := [d1, d2] }
  | _ => none }
def flowWaysRow : OpenClaim := { program := "ytjmklialkjncaaa", sum := "2941fa6fef2685122e8734019046847b6164a55799879ff8ac17377ebcee9fce", func := "skymosaic/skymosaiclaw18.FlowWays", spec := "flowWays", unfollowed := true, recurses := true, apart := false }
def FlowWaysSaid : Prop := flowWaysRow.holds Try.pinned (OpenSpec.ofChange flowWaysSpec)

/-- ITS FALSE NEIGHBOUR: 'it returns false'. Refute it at one input. -/
def flowWaysWrong : ChangeSpec := { name := "flowWays", fn := fun _ => fun
  | [d1, d2] => { results := [.lit (.bool false)], args := [d1, d2] }
  | _ => none }
def FlowWaysWrongFalsely : Prop := flowWaysRow.holds Try.pinned (OpenSpec.ofChange flowWaysWrong)

/-- 'skymosaiclaw18.FlowValid': WHATEVER THE INPUT: true; the input reads as it did. -/
def flowValidSpec : ChangeSpec := { name := "flowValid", fn := fun _ => fun
  | [d1, d2, d3, d4] => { results := [.lit (.bool true)], args := [d1, d2, d3, d4] }
  | _ => none }
def flowValidRow : OpenClaim := { program := "ytjmklialkjncaaa", sum := "2941fa6fef2685122e8734019046847b6164a55799879ff8ac17377ebcee9fce", func := "skymosaic/skymosaiclaw18.FlowValid", spec := "flowValid", unfollowed := true, recurses := true, apart := false }
def FlowValidSaid : Prop := flowValidRow.holds Try.pinned (OpenSpec.ofChange flowValidSpec)

/-- ITS FALSE NEIGHBOUR: 'it returns false'. Refute it at one input. -/
def flowValidWrong : ChangeSpec := { name := "flowValid", fn := fun _ => fun
  | [d1, d2, d3, d4] => { results := [.lit (.bool false)], args := [d1, d2, d3, d4] }
  | _ => none }
def FlowValidWrongFalsely : Prop := flowValidRow.holds Try.pinned (OpenSpec.ofChange flowValidWrong)

/- THE SECOND FORM. 'bulk': how many values and letters a reading holds, each counted each time it is reached (what is shared counts as often as it is met; a slice's spare places count too). A statement '..UptoSaid' is the law's where the arguments, and the package variables that the reading takes, are together of bulk at most 1048576: NARROWER than '..Said'. Prove '..Said' where nothing that the law and all that it calls make is longer than what came in: it says more and counts as full. Else prove '..UptoSaid'. A law counts once. -/
mutual
def uptoBulk {H : Type} : DataW H → Nat
  | .lit (.string bytes) => bytes.length + 1
  | .lit _ => 1
  | .nil => 1
  | .ptr d => uptoBulk d + 1
  | .slice elems spare => uptoBulkAll elems + uptoBulkAll spare + 1
  | .agg parts => uptoBulkAll parts + 1
  | .iface _ d => uptoBulk d + 1
  | .map entries => uptoBulkEntries entries + 1
  | .held _ => 1
def uptoBulkAll {H : Type} : List (DataW H) → Nat
  | [] => 0
  | d :: r => uptoBulk d + uptoBulkAll r
def uptoBulkEntries {H : Type} : List (Lit × DataW H) → Nat
  | [] => 0
  | x :: r => uptoBulkEntry x + uptoBulkEntries r
def uptoBulkEntry {H : Type} : Lit × DataW H → Nat
  | (.string bytes, d) => bytes.length + uptoBulk d + 1
  | (_, d) => uptoBulk d + 1
 end
def uptoSmall : (H : Type) → List (DataW H) → Bool := fun _ ds => decide (uptoBulkAll ds ≤ 1048576)
def OpenSpec.upto (s : _root_.Go.ChangeSpec) : _root_.Go.OpenSpec := { _root_.Go.OpenSpec.ofChange s with cond := some uptoSmall }

/-- 'skymosaiclaw18.FlowMax', WHERE WHAT IT READS IS OF BULK AT MOST 1048576: true; the input reads as it did. -/
def flowMaxUptoRow : OpenClaim := { program := "ytjmklialkjncaaa", sum := "2941fa6fef2685122e8734019046847b6164a55799879ff8ac17377ebcee9fce", func := "skymosaic/skymosaiclaw18.FlowMax", spec := "flowMax", unfollowed := true, recurses := true, apart := false, narrowed := true }
def FlowMaxUptoSaid : Prop := flowMaxUptoRow.holds Try.pinned (OpenSpec.upto flowMaxSpec)

/-- 'skymosaiclaw18.FlowMore', WHERE WHAT IT READS IS OF BULK AT MOST 1048576: true; the input reads as it did. -/
def flowMoreUptoRow : OpenClaim := { program := "ytjmklialkjncaaa", sum := "2941fa6fef2685122e8734019046847b6164a55799879ff8ac17377ebcee9fce", func := "skymosaic/skymosaiclaw18.FlowMore", spec := "flowMore", unfollowed := true, recurses := true, apart := false, narrowed := true }
def FlowMoreUptoSaid : Prop := flowMoreUptoRow.holds Try.pinned (OpenSpec.upto flowMoreSpec)

/-- 'skymosaiclaw18.FlowCuts', WHERE WHAT IT READS IS OF BULK AT MOST 1048576: true; the input reads as it did. -/
def flowCutsUptoRow : OpenClaim := { program := "ytjmklialkjncaaa", sum := "2941fa6fef2685122e8734019046847b6164a55799879ff8ac17377ebcee9fce", func := "skymosaic/skymosaiclaw18.FlowCuts", spec := "flowCuts", unfollowed := true, recurses := true, apart := false, narrowed := true }
def FlowCutsUptoSaid : Prop := flowCutsUptoRow.holds Try.pinned (OpenSpec.upto flowCutsSpec)

/-- 'skymosaiclaw18.FlowDual', WHERE WHAT IT READS IS OF BULK AT MOST 1048576: true; the input reads as it did. -/
def flowDualUptoRow : OpenClaim := { program := "ytjmklialkjncaaa", sum := "2941fa6fef2685122e8734019046847b6164a55799879ff8ac17377ebcee9fce", func := "skymosaic/skymosaiclaw18.FlowDual", spec := "flowDual", unfollowed := true, recurses := true, apart := false, narrowed := true }
def FlowDualUptoSaid : Prop := flowDualUptoRow.holds Try.pinned (OpenSpec.upto flowDualSpec)

/-- 'skymosaiclaw18.FlowProofs', WHERE WHAT IT READS IS OF BULK AT MOST 1048576: true; the input reads as it did. -/
def flowProofsUptoRow : OpenClaim := { program := "ytjmklialkjncaaa", sum := "2941fa6fef2685122e8734019046847b6164a55799879ff8ac17377ebcee9fce", func := "skymosaic/skymosaiclaw18.FlowProofs", spec := "flowProofs", unfollowed := true, recurses := true, apart := false, narrowed := true }
def FlowProofsUptoSaid : Prop := flowProofsUptoRow.holds Try.pinned (OpenSpec.upto flowProofsSpec)

/-- 'skymosaiclaw18.FlowPaths', WHERE WHAT IT READS IS OF BULK AT MOST 1048576: true; the input reads as it did. -/
def flowPathsUptoRow : OpenClaim := { program := "ytjmklialkjncaaa", sum := "2941fa6fef2685122e8734019046847b6164a55799879ff8ac17377ebcee9fce", func := "skymosaic/skymosaiclaw18.FlowPaths", spec := "flowPaths", unfollowed := true, recurses := true, apart := false, narrowed := true }
def FlowPathsUptoSaid : Prop := flowPathsUptoRow.holds Try.pinned (OpenSpec.upto flowPathsSpec)

/-- 'skymosaiclaw18.FlowWays', WHERE WHAT IT READS IS OF BULK AT MOST 1048576: true; the input reads as it did. -/
def flowWaysUptoRow : OpenClaim := { program := "ytjmklialkjncaaa", sum := "2941fa6fef2685122e8734019046847b6164a55799879ff8ac17377ebcee9fce", func := "skymosaic/skymosaiclaw18.FlowWays", spec := "flowWays", unfollowed := true, recurses := true, apart := false, narrowed := true }
def FlowWaysUptoSaid : Prop := flowWaysUptoRow.holds Try.pinned (OpenSpec.upto flowWaysSpec)

/-- 'skymosaiclaw18.FlowValid', WHERE WHAT IT READS IS OF BULK AT MOST 1048576: true; the input reads as it did. -/
def flowValidUptoRow : OpenClaim := { program := "ytjmklialkjncaaa", sum := "2941fa6fef2685122e8734019046847b6164a55799879ff8ac17377ebcee9fce", func := "skymosaic/skymosaiclaw18.FlowValid", spec := "flowValid", unfollowed := true, recurses := true, apart := false, narrowed := true }
def FlowValidUptoSaid : Prop := flowValidUptoRow.holds Try.pinned (OpenSpec.upto flowValidSpec)

end Rows
end Go.Proofs.Ytjmklialkjncaaa
