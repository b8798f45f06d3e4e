/-
  No cell of these rows narrows 'for every input' (looked for: loops, veiled, ifaces, maps, wideKeys, modest, calm, conditions, laid).
  DERIVED. THE GIVEN ROWS OF THIS SEAT. 14 by the template 'for every input the law returns true; each argument reads behind the call as it read before'; 0 by the template 'total and deterministic' (their statements: YtpffanfpohajhaaGreatTotals.lean).
  GIVEN WITH THE SEED: the statements are not yours to turn. If you find one false, say at which input.
  Laid BY PROGRAM, IN A SANDBOX (cutbox-rows.mjs): the forced cells as the released guide's own fill.sh prints them over the translation 97b796dfd1137be1… (all of the seat's roots in one cut). By AI agents, Wed Nov 11 2026. No macro, syntax, notation, axiom, sorry.
-/
import Derived.Test.YtpffanfpohajhaaGreatChecked
import GoSem.Claim
import GoSem.ClaimJoined
import GoSem.ClaimMapViews
import Derived.JoinedTies
import Derived.KernelRfl
namespace Go.Proofs.YtpffanfpohajhaaGreat
/- THE CELL 'sum', in the pinned program and in every row, IS THE sha256 OF THE DUMP (.gsa) THAT YtpffanfpohajhaaGreatProg.lean LOADS. Nothing in Lean hashes anything: it is a label: what it is worth is what the hold of that sum in a sandbox is worth. -/
noncomputable def Tryz.pinned : Pinned := { name := "ytpffanfpohajhaagreat", sum := "97b796dfd1137be150e097f902e42dfd66ce39046e295e2dd7678f0d8c12557f", checked := Tryz.checked }
namespace Rows
def none {H : Type} : Left H := { results := [], args := [] }

/-- 'satchellaw10.VfsNews': WHATEVER THE INPUT: true; the input reads as it did. -/
def vfsNewsSpec : ChangeSpec := { name := "vfsNews", fn := fun _ => fun
  | [d1, d2] => { results := [.lit (.bool true)], args := [d1, d2] }
  | _ => none }
def vfsNewsRow : OpenClaim := { program := "ytpffanfpohajhaagreat", sum := "97b796dfd1137be150e097f902e42dfd66ce39046e295e2dd7678f0d8c12557f", func := "satchel/satchellaw10.VfsNews", spec := "vfsNews", inPlace := ["internal/bytealg.IndexByteString", "internal/bytealg.IndexString"], unfollowed := true, recurses := true, named := ["internal/bytealg.MaxLen"], apart := false }
def VfsNewsSaid : Prop := vfsNewsRow.holds Tryz.pinned (OpenSpec.ofChange vfsNewsSpec)

/-- ITS FALSE NEIGHBOUR: 'it returns false'. Refute it at one input. -/
def vfsNewsWrong : ChangeSpec := { name := "vfsNews", fn := fun _ => fun
  | [d1, d2] => { results := [.lit (.bool false)], args := [d1, d2] }
  | _ => none }
def VfsNewsWrongFalsely : Prop := vfsNewsRow.holds Tryz.pinned (OpenSpec.ofChange vfsNewsWrong)

/-- 'satchellaw11.WalkAll': WHATEVER THE INPUT: true; the input reads as it did. -/
def walkAllSpec : ChangeSpec := { name := "walkAll", fn := fun _ => fun
  | [d1, d2] => { results := [.lit (.bool true)], args := [d1, d2] }
  | _ => none }
def walkAllRow : OpenClaim := { program := "ytpffanfpohajhaagreat", sum := "97b796dfd1137be150e097f902e42dfd66ce39046e295e2dd7678f0d8c12557f", func := "satchel/satchellaw11.WalkAll", spec := "walkAll", inPlace := ["internal/bytealg.IndexByteString", "internal/bytealg.IndexString", "internal/bytealg.abigen_runtime_cmpstring"], unfollowed := true, recurses := true, named := ["internal/bytealg.MaxLen"], apart := false }
def WalkAllSaid : Prop := walkAllRow.holds Tryz.pinned (OpenSpec.ofChange walkAllSpec)

/-- ITS FALSE NEIGHBOUR: 'it returns false'. Refute it at one input. -/
def walkAllWrong : ChangeSpec := { name := "walkAll", fn := fun _ => fun
  | [d1, d2] => { results := [.lit (.bool false)], args := [d1, d2] }
  | _ => none }
def WalkAllWrongFalsely : Prop := walkAllRow.holds Tryz.pinned (OpenSpec.ofChange walkAllWrong)

/-- 'satchellaw11.WalkMakes': WHATEVER THE INPUT: true; the input reads as it did. -/
def walkMakesSpec : ChangeSpec := { name := "walkMakes", fn := fun _ => fun
  | [d1, d2, d3] => { results := [.lit (.bool true)], args := [d1, d2, d3] }
  | _ => none }
def walkMakesRow : OpenClaim := { program := "ytpffanfpohajhaagreat", sum := "97b796dfd1137be150e097f902e42dfd66ce39046e295e2dd7678f0d8c12557f", func := "satchel/satchellaw11.WalkMakes", spec := "walkMakes", inPlace := ["internal/bytealg.IndexByteString", "internal/bytealg.IndexString", "internal/bytealg.abigen_runtime_cmpstring"], unfollowed := true, recurses := true, named := ["internal/bytealg.MaxLen"], apart := false }
def WalkMakesSaid : Prop := walkMakesRow.holds Tryz.pinned (OpenSpec.ofChange walkMakesSpec)

/-- ITS FALSE NEIGHBOUR: 'it returns false'. Refute it at one input. -/
def walkMakesWrong : ChangeSpec := { name := "walkMakes", fn := fun _ => fun
  | [d1, d2, d3] => { results := [.lit (.bool false)], args := [d1, d2, d3] }
  | _ => none }
def WalkMakesWrongFalsely : Prop := walkMakesRow.holds Tryz.pinned (OpenSpec.ofChange walkMakesWrong)

/-- 'satchellaw11.WalkElsewhere': WHATEVER THE INPUT: true; the input reads as it did. -/
def walkElsewhereSpec : ChangeSpec := { name := "walkElsewhere", fn := fun _ => fun
  | [d1, d2] => { results := [.lit (.bool true)], args := [d1, d2] }
  | _ => none }
def walkElsewhereRow : OpenClaim := { program := "ytpffanfpohajhaagreat", sum := "97b796dfd1137be150e097f902e42dfd66ce39046e295e2dd7678f0d8c12557f", func := "satchel/satchellaw11.WalkElsewhere", spec := "walkElsewhere", inPlace := ["internal/bytealg.IndexByteString", "internal/bytealg.IndexString", "internal/bytealg.abigen_runtime_cmpstring"], unfollowed := true, recurses := true, named := ["internal/bytealg.MaxLen"], apart := false }
def WalkElsewhereSaid : Prop := walkElsewhereRow.holds Tryz.pinned (OpenSpec.ofChange walkElsewhereSpec)

/-- ITS FALSE NEIGHBOUR: 'it returns false'. Refute it at one input. -/
def walkElsewhereWrong : ChangeSpec := { name := "walkElsewhere", fn := fun _ => fun
  | [d1, d2] => { results := [.lit (.bool false)], args := [d1, d2] }
  | _ => none }
def WalkElsewhereWrongFalsely : Prop := walkElsewhereRow.holds Tryz.pinned (OpenSpec.ofChange walkElsewhereWrong)

/-- 'satchellaw10.VfsPlace': WHATEVER THE INPUT: true; the input reads as it did. -/
def vfsPlaceSpec : ChangeSpec := { name := "vfsPlace", fn := fun _ => fun
  | [d1, d2] => { results := [.lit (.bool true)], args := [d1, d2] }
  | _ => none }
def vfsPlaceRow : OpenClaim := { program := "ytpffanfpohajhaagreat", sum := "97b796dfd1137be150e097f902e42dfd66ce39046e295e2dd7678f0d8c12557f", func := "satchel/satchellaw10.VfsPlace", spec := "vfsPlace", inPlace := ["internal/bytealg.IndexByteString", "internal/bytealg.IndexString", "internal/bytealg.abigen_runtime_cmpstring"], unfollowed := true, recurses := true, named := ["internal/bytealg.MaxLen"], apart := false }
def VfsPlaceSaid : Prop := vfsPlaceRow.holds Tryz.pinned (OpenSpec.ofChange vfsPlaceSpec)

/-- ITS FALSE NEIGHBOUR: 'it returns false'. Refute it at one input. -/
def vfsPlaceWrong : ChangeSpec := { name := "vfsPlace", fn := fun _ => fun
  | [d1, d2] => { results := [.lit (.bool false)], args := [d1, d2] }
  | _ => none }
def VfsPlaceWrongFalsely : Prop := vfsPlaceRow.holds Tryz.pinned (OpenSpec.ofChange vfsPlaceWrong)

/-- 'satchellaw10.VfsBlind': WHATEVER THE INPUT: true; the input reads as it did. -/
def vfsBlindSpec : ChangeSpec := { name := "vfsBlind", fn := fun _ => fun
  | [d1, d2, d3] => { results := [.lit (.bool true)], args := [d1, d2, d3] }
  | _ => none }
def vfsBlindRow : OpenClaim := { program := "ytpffanfpohajhaagreat", sum := "97b796dfd1137be150e097f902e42dfd66ce39046e295e2dd7678f0d8c12557f", func := "satchel/satchellaw10.VfsBlind", spec := "vfsBlind", inPlace := ["internal/bytealg.IndexByteString", "internal/bytealg.IndexString", "internal/bytealg.abigen_runtime_cmpstring"], unfollowed := true, recurses := true, named := ["internal/bytealg.MaxLen"], apart := false }
def VfsBlindSaid : Prop := vfsBlindRow.holds Tryz.pinned (OpenSpec.ofChange vfsBlindSpec)

/-- ITS FALSE NEIGHBOUR: 'it returns false'. Refute it at one input. -/
def vfsBlindWrong : ChangeSpec := { name := "vfsBlind", fn := fun _ => fun
  | [d1, d2, d3] => { results := [.lit (.bool false)], args := [d1, d2, d3] }
  | _ => none }
def VfsBlindWrongFalsely : Prop := vfsBlindRow.holds Tryz.pinned (OpenSpec.ofChange vfsBlindWrong)

/-- 'satchellaw10.VfsTrace': WHATEVER THE INPUT: true; the input reads as it did. -/
def vfsTraceSpec : ChangeSpec := { name := "vfsTrace", fn := fun _ => fun
  | [d1, d2] => { results := [.lit (.bool true)], args := [d1, d2] }
  | _ => none }
def vfsTraceRow : OpenClaim := { program := "ytpffanfpohajhaagreat", sum := "97b796dfd1137be150e097f902e42dfd66ce39046e295e2dd7678f0d8c12557f", func := "satchel/satchellaw10.VfsTrace", spec := "vfsTrace", inPlace := ["internal/bytealg.IndexByteString", "internal/bytealg.IndexString", "internal/bytealg.abigen_runtime_cmpstring"], unfollowed := true, recurses := true, named := ["internal/bytealg.MaxLen"], apart := false }
def VfsTraceSaid : Prop := vfsTraceRow.holds Tryz.pinned (OpenSpec.ofChange vfsTraceSpec)

/-- ITS FALSE NEIGHBOUR: 'it returns false'. Refute it at one input. -/
def vfsTraceWrong : ChangeSpec := { name := "vfsTrace", fn := fun _ => fun
  | [d1, d2] => { results := [.lit (.bool false)], args := [d1, d2] }
  | _ => none }
def VfsTraceWrongFalsely : Prop := vfsTraceRow.holds Tryz.pinned (OpenSpec.ofChange vfsTraceWrong)

/-- 'satchellaw10.VfsLinks': WHATEVER THE INPUT: true; the input reads as it did. -/
def vfsLinksSpec : ChangeSpec := { name := "vfsLinks", fn := fun _ => fun
  | [d1, d2] => { results := [.lit (.bool true)], args := [d1, d2] }
  | _ => none }
def vfsLinksRow : OpenClaim := { program := "ytpffanfpohajhaagreat", sum := "97b796dfd1137be150e097f902e42dfd66ce39046e295e2dd7678f0d8c12557f", func := "satchel/satchellaw10.VfsLinks", spec := "vfsLinks", inPlace := ["internal/bytealg.IndexByteString", "internal/bytealg.IndexString", "internal/bytealg.abigen_runtime_cmpstring"], unfollowed := true, recurses := true, named := ["internal/bytealg.MaxLen"], apart := false }
def VfsLinksSaid : Prop := vfsLinksRow.holds Tryz.pinned (OpenSpec.ofChange vfsLinksSpec)

/-- ITS FALSE NEIGHBOUR: 'it returns false'. Refute it at one input. -/
def vfsLinksWrong : ChangeSpec := { name := "vfsLinks", fn := fun _ => fun
  | [d1, d2] => { results := [.lit (.bool false)], args := [d1, d2] }
  | _ => none }
def VfsLinksWrongFalsely : Prop := vfsLinksRow.holds Tryz.pinned (OpenSpec.ofChange vfsLinksWrong)

/-- 'satchellaw10.VfsFormed': WHATEVER THE INPUT: true; the input reads as it did. -/
def vfsFormedSpec : ChangeSpec := { name := "vfsFormed", fn := fun _ => fun
  | [d1, d2] => { results := [.lit (.bool true)], args := [d1, d2] }
  | _ => none }
def vfsFormedRow : OpenClaim := { program := "ytpffanfpohajhaagreat", sum := "97b796dfd1137be150e097f902e42dfd66ce39046e295e2dd7678f0d8c12557f", func := "satchel/satchellaw10.VfsFormed", spec := "vfsFormed", inPlace := ["internal/bytealg.IndexByteString", "internal/bytealg.IndexString", "internal/bytealg.abigen_runtime_cmpstring"], unfollowed := true, recurses := true, named := ["internal/bytealg.MaxLen"], apart := false }
def VfsFormedSaid : Prop := vfsFormedRow.holds Tryz.pinned (OpenSpec.ofChange vfsFormedSpec)

/-- ITS FALSE NEIGHBOUR: 'it returns false'. Refute it at one input. -/
def vfsFormedWrong : ChangeSpec := { name := "vfsFormed", fn := fun _ => fun
  | [d1, d2] => { results := [.lit (.bool false)], args := [d1, d2] }
  | _ => none }
def VfsFormedWrongFalsely : Prop := vfsFormedRow.holds Tryz.pinned (OpenSpec.ofChange vfsFormedWrong)

/-- 'satchellaw10.VfsOn': WHATEVER THE INPUT: true; the input reads as it did. -/
def vfsOnSpec : ChangeSpec := { name := "vfsOn", fn := fun _ => fun
  | [d1, d2, d3] => { results := [.lit (.bool true)], args := [d1, d2, d3] }
  | _ => none }
def vfsOnRow : OpenClaim := { program := "ytpffanfpohajhaagreat", sum := "97b796dfd1137be150e097f902e42dfd66ce39046e295e2dd7678f0d8c12557f", func := "satchel/satchellaw10.VfsOn", spec := "vfsOn", inPlace := ["internal/bytealg.IndexByteString", "internal/bytealg.IndexString", "internal/bytealg.abigen_runtime_cmpstring"], unfollowed := true, recurses := true, named := ["internal/bytealg.MaxLen"], apart := false }
def VfsOnSaid : Prop := vfsOnRow.holds Tryz.pinned (OpenSpec.ofChange vfsOnSpec)

/-- ITS FALSE NEIGHBOUR: 'it returns false'. Refute it at one input. -/
def vfsOnWrong : ChangeSpec := { name := "vfsOn", fn := fun _ => fun
  | [d1, d2, d3] => { results := [.lit (.bool false)], args := [d1, d2, d3] }
  | _ => none }
def VfsOnWrongFalsely : Prop := vfsOnRow.holds Tryz.pinned (OpenSpec.ofChange vfsOnWrong)

/-- 'satchellaw10.VfsAlike': WHATEVER THE INPUT: true; the input reads as it did. -/
def vfsAlikeSpec : ChangeSpec := { name := "vfsAlike", fn := fun _ => fun
  | [d1, d2] => { results := [.lit (.bool true)], args := [d1, d2] }
  | _ => none }
def vfsAlikeRow : OpenClaim := { program := "ytpffanfpohajhaagreat", sum := "97b796dfd1137be150e097f902e42dfd66ce39046e295e2dd7678f0d8c12557f", func := "satchel/satchellaw10.VfsAlike", spec := "vfsAlike", inPlace := ["internal/bytealg.IndexByteString", "internal/bytealg.IndexString", "internal/bytealg.abigen_runtime_cmpstring"], unfollowed := true, recurses := true, named := ["internal/bytealg.MaxLen"], apart := false }
def VfsAlikeSaid : Prop := vfsAlikeRow.holds Tryz.pinned (OpenSpec.ofChange vfsAlikeSpec)

/-- ITS FALSE NEIGHBOUR: 'it returns false'. Refute it at one input. -/
def vfsAlikeWrong : ChangeSpec := { name := "vfsAlike", fn := fun _ => fun
  | [d1, d2] => { results := [.lit (.bool false)], args := [d1, d2] }
  | _ => none }
def VfsAlikeWrongFalsely : Prop := vfsAlikeRow.holds Tryz.pinned (OpenSpec.ofChange vfsAlikeWrong)

/-- 'satchellaw10.VfsLoads': WHATEVER THE INPUT: true; the input reads as it did. -/
def vfsLoadsSpec : ChangeSpec := { name := "vfsLoads", fn := fun _ => fun
  | [d1, d2] => { results := [.lit (.bool true)], args := [d1, d2] }
  | _ => none }
def vfsLoadsRow : OpenClaim := { program := "ytpffanfpohajhaagreat", sum := "97b796dfd1137be150e097f902e42dfd66ce39046e295e2dd7678f0d8c12557f", func := "satchel/satchellaw10.VfsLoads", spec := "vfsLoads", inPlace := ["internal/bytealg.IndexByteString", "internal/bytealg.IndexString", "internal/bytealg.abigen_runtime_cmpstring"], unfollowed := true, recurses := true, named := ["internal/bytealg.MaxLen"], apart := false }
def VfsLoadsSaid : Prop := vfsLoadsRow.holds Tryz.pinned (OpenSpec.ofChange vfsLoadsSpec)

/-- ITS FALSE NEIGHBOUR: 'it returns false'. Refute it at one input. -/
def vfsLoadsWrong : ChangeSpec := { name := "vfsLoads", fn := fun _ => fun
  | [d1, d2] => { results := [.lit (.bool false)], args := [d1, d2] }
  | _ => none }
def VfsLoadsWrongFalsely : Prop := vfsLoadsRow.holds Tryz.pinned (OpenSpec.ofChange vfsLoadsWrong)

/-- 'satchellaw10.VfsAll': WHATEVER THE INPUT: true; the input reads as it did. -/
def vfsAllSpec : ChangeSpec := { name := "vfsAll", fn := fun _ => fun
  | [d1, d2, d3] => { results := [.lit (.bool true)], args := [d1, d2, d3] }
  | _ => none }
def vfsAllRow : OpenClaim := { program := "ytpffanfpohajhaagreat", sum := "97b796dfd1137be150e097f902e42dfd66ce39046e295e2dd7678f0d8c12557f", func := "satchel/satchellaw10.VfsAll", spec := "vfsAll", inPlace := ["internal/bytealg.IndexByteString", "internal/bytealg.IndexString", "internal/bytealg.abigen_runtime_cmpstring"], unfollowed := true, recurses := true, named := ["internal/bytealg.MaxLen"], apart := false }
def VfsAllSaid : Prop := vfsAllRow.holds Tryz.pinned (OpenSpec.ofChange vfsAllSpec)

/-- ITS FALSE NEIGHBOUR: 'it returns false'. Refute it at one input. -/
def vfsAllWrong : ChangeSpec := { name := "vfsAll", fn := fun _ => fun
  | [d1, d2, d3] => { results := [.lit (.bool false)], args := [d1, d2, d3] }
  | _ => none }
def VfsAllWrongFalsely : Prop := vfsAllRow.holds Tryz.pinned (OpenSpec.ofChange vfsAllWrong)

/-- 'satchellaw10.VfsSteps': WHATEVER THE INPUT: true; the input reads as it did. -/
def vfsStepsSpec : ChangeSpec := { name := "vfsSteps", fn := fun _ => fun
  | [d1, d2] => { results := [.lit (.bool true)], args := [d1, d2] }
  | _ => none }
def vfsStepsRow : OpenClaim := { program := "ytpffanfpohajhaagreat", sum := "97b796dfd1137be150e097f902e42dfd66ce39046e295e2dd7678f0d8c12557f", func := "satchel/satchellaw10.VfsSteps", spec := "vfsSteps", inPlace := ["internal/bytealg.IndexByteString", "internal/bytealg.IndexString", "internal/bytealg.abigen_runtime_cmpstring"], unfollowed := true, recurses := true, named := ["internal/bytealg.MaxLen"], apart := false }
def VfsStepsSaid : Prop := vfsStepsRow.holds Tryz.pinned (OpenSpec.ofChange vfsStepsSpec)

/-- ITS FALSE NEIGHBOUR: 'it returns false'. Refute it at one input. -/
def vfsStepsWrong : ChangeSpec := { name := "vfsSteps", fn := fun _ => fun
  | [d1, d2] => { results := [.lit (.bool false)], args := [d1, d2] }
  | _ => none }
def VfsStepsWrongFalsely : Prop := vfsStepsRow.holds Tryz.pinned (OpenSpec.ofChange vfsStepsWrong)

/- THE SECOND FORM. 'bulk': how many values and letters a reading holds, each counted each time it is reached (what is shared counts as often as it is met; a slice's spare places count too). A statement '..UptoSaid' is the law's where the arguments, and the package variables that the reading takes, are together of bulk at most 1048576: NARROWER than '..Said'. Prove '..Said' where nothing that the law and all that it calls make is longer than what came in: it says more and counts as full. Else prove '..UptoSaid'. A law counts once. -/
mutual
def uptoBulk {H : Type} : DataW H → Nat
  | .lit (.string bytes) => bytes.length + 1
  | .lit _ => 1
  | .nil => 1
  | .ptr d => uptoBulk d + 1
  | .slice elems spare => uptoBulkAll elems + uptoBulkAll spare + 1
  | .agg parts => uptoBulkAll parts + 1
  | .iface _ d => uptoBulk d + 1
  | .map entries => uptoBulkEntries entries + 1
  | .held _ => 1
def uptoBulkAll {H : Type} : List (DataW H) → Nat
  | [] => 0
  | d :: r => uptoBulk d + uptoBulkAll r
def uptoBulkEntries {H : Type} : List (Lit × DataW H) → Nat
  | [] => 0
  | x :: r => uptoBulkEntry x + uptoBulkEntries r
def uptoBulkEntry {H : Type} : Lit × DataW H → Nat
  | (.string bytes, d) => bytes.length + uptoBulk d + 1
  | (_, d) => uptoBulk d + 1
 end
def uptoSmall : (H : Type) → List (DataW H) → Bool := fun _ ds => decide (uptoBulkAll ds ≤ 1048576)
def OpenSpec.upto (s : _root_.Go.ChangeSpec) : _root_.Go.OpenSpec := { _root_.Go.OpenSpec.ofChange s with cond := some uptoSmall }

/-- 'satchellaw10.VfsNews', WHERE WHAT IT READS IS OF BULK AT MOST 1048576: true; the input reads as it did. -/
def vfsNewsUptoRow : OpenClaim := { program := "ytpffanfpohajhaagreat", sum := "97b796dfd1137be150e097f902e42dfd66ce39046e295e2dd7678f0d8c12557f", func := "satchel/satchellaw10.VfsNews", spec := "vfsNews", inPlace := ["internal/bytealg.IndexByteString", "internal/bytealg.IndexString"], unfollowed := true, recurses := true, named := ["internal/bytealg.MaxLen"], apart := false, narrowed := true }
def VfsNewsUptoSaid : Prop := vfsNewsUptoRow.holds Tryz.pinned (OpenSpec.upto vfsNewsSpec)

/-- 'satchellaw11.WalkAll', WHERE WHAT IT READS IS OF BULK AT MOST 1048576: true; the input reads as it did. -/
def walkAllUptoRow : OpenClaim := { program := "ytpffanfpohajhaagreat", sum := "97b796dfd1137be150e097f902e42dfd66ce39046e295e2dd7678f0d8c12557f", func := "satchel/satchellaw11.WalkAll", spec := "walkAll", inPlace := ["internal/bytealg.IndexByteString", "internal/bytealg.IndexString", "internal/bytealg.abigen_runtime_cmpstring"], unfollowed := true, recurses := true, named := ["internal/bytealg.MaxLen"], apart := false, narrowed := true }
def WalkAllUptoSaid : Prop := walkAllUptoRow.holds Tryz.pinned (OpenSpec.upto walkAllSpec)

/-- 'satchellaw11.WalkMakes', WHERE WHAT IT READS IS OF BULK AT MOST 1048576: true; the input reads as it did. -/
def walkMakesUptoRow : OpenClaim := { program := "ytpffanfpohajhaagreat", sum := "97b796dfd1137be150e097f902e42dfd66ce39046e295e2dd7678f0d8c12557f", func := "satchel/satchellaw11.WalkMakes", spec := "walkMakes", inPlace := ["internal/bytealg.IndexByteString", "internal/bytealg.IndexString", "internal/bytealg.abigen_runtime_cmpstring"], unfollowed := true, recurses := true, named := ["internal/bytealg.MaxLen"], apart := false, narrowed := true }
def WalkMakesUptoSaid : Prop := walkMakesUptoRow.holds Tryz.pinned (OpenSpec.upto walkMakesSpec)

/-- 'satchellaw11.WalkElsewhere', WHERE WHAT IT READS IS OF BULK AT MOST 1048576: true; the input reads as it did. -/
def walkElsewhereUptoRow : OpenClaim := { program := "ytpffanfpohajhaagreat", sum := "97b796dfd1137be150e097f902e42dfd66ce39046e295e2dd7678f0d8c12557f", func := "satchel/satchellaw11.WalkElsewhere", spec := "walkElsewhere", inPlace := ["internal/bytealg.IndexByteString", "internal/bytealg.IndexString", "internal/bytealg.abigen_runtime_cmpstring"], unfollowed := true, recurses := true, named := ["internal/bytealg.MaxLen"], apart := false, narrowed := true }
def WalkElsewhereUptoSaid : Prop := walkElsewhereUptoRow.holds Tryz.pinned (OpenSpec.upto walkElsewhereSpec)

/-- 'satchellaw10.VfsPlace', WHERE WHAT IT READS IS OF BULK AT MOST 1048576: true; the input reads as it did. -/
def vfsPlaceUptoRow : OpenClaim := { program := "ytpffanfpohajhaagreat", sum := "97b796dfd1137be150e097f902e42dfd66ce39046e295e2dd7678f0d8c12557f", func := "satchel/satchellaw10.VfsPlace", spec := "vfsPlace", inPlace := ["internal/bytealg.IndexByteString", "internal/bytealg.IndexString", "internal/bytealg.abigen_runtime_cmpstring"], unfollowed := true, recurses := true, named := ["internal/bytealg.MaxLen"], apart := false, narrowed := true }
def VfsPlaceUptoSaid : Prop := vfsPlaceUptoRow.holds Tryz.pinned (OpenSpec.upto vfsPlaceSpec)

/-- 'satchellaw10.VfsBlind', WHERE WHAT IT READS IS OF BULK AT MOST 1048576: true; the input reads as it did. -/
def vfsBlindUptoRow : OpenClaim := { program := "ytpffanfpohajhaagreat", sum := "97b796dfd1137be150e097f902e42dfd66ce39046e295e2dd7678f0d8c12557f", func := "satchel/satchellaw10.VfsBlind", spec := "vfsBlind", inPlace := ["internal/bytealg.IndexByteString", "internal/bytealg.IndexString", "internal/bytealg.abigen_runtime_cmpstring"], unfollowed := true, recurses := true, named := ["internal/bytealg.MaxLen"], apart := false, narrowed := true }
def VfsBlindUptoSaid : Prop := vfsBlindUptoRow.holds Tryz.pinned (OpenSpec.upto vfsBlindSpec)

/-- 'satchellaw10.VfsTrace', WHERE WHAT IT READS IS OF BULK AT MOST 1048576: true; the input reads as it did. -/
def vfsTraceUptoRow : OpenClaim := { program := "ytpffanfpohajhaagreat", sum := "97b796dfd1137be150e097f902e42dfd66ce39046e295e2dd7678f0d8c12557f", func := "satchel/satchellaw10.VfsTrace", spec := "vfsTrace", inPlace := ["internal/bytealg.IndexByteString", "internal/bytealg.IndexString", "internal/bytealg.abigen_runtime_cmpstring"], unfollowed := true, recurses := true, named := ["internal/bytealg.MaxLen"], apart := false, narrowed := true }
def VfsTraceUptoSaid : Prop := vfsTraceUptoRow.holds Tryz.pinned (OpenSpec.upto vfsTraceSpec)

/-- 'satchellaw10.VfsLinks', WHERE WHAT IT READS IS OF BULK AT MOST 1048576: true; the input reads as it did. -/
def vfsLinksUptoRow : OpenClaim := { program := "ytpffanfpohajhaagreat", sum := "97b796dfd1137be150e097f902e42dfd66ce39046e295e2dd7678f0d8c12557f", func := "satchel/satchellaw10.VfsLinks", spec := "vfsLinks", inPlace := ["internal/bytealg.IndexByteString", "internal/bytealg.IndexString", "internal/bytealg.abigen_runtime_cmpstring"], unfollowed := true, recurses := true, named := ["internal/bytealg.MaxLen"], apart := false, narrowed := true }
def VfsLinksUptoSaid : Prop := vfsLinksUptoRow.holds Tryz.pinned (OpenSpec.upto vfsLinksSpec)

/-- 'satchellaw10.VfsFormed', WHERE WHAT IT READS IS OF BULK AT MOST 1048576: true; the input reads as it did. -/
def vfsFormedUptoRow : OpenClaim := { program := "ytpffanfpohajhaagreat", sum := "97b796dfd1137be150e097f902e42dfd66ce39046e295e2dd7678f0d8c12557f", func := "satchel/satchellaw10.VfsFormed", spec := "vfsFormed", inPlace := ["internal/bytealg.IndexByteString", "internal/bytealg.IndexString", "internal/bytealg.abigen_runtime_cmpstring"], unfollowed := true, recurses := true, named := ["internal/bytealg.MaxLen"], apart := false, narrowed := true }
def VfsFormedUptoSaid : Prop := vfsFormedUptoRow.holds Tryz.pinned (OpenSpec.upto vfsFormedSpec)

/-- 'satchellaw10.VfsOn', WHERE WHAT IT READS IS OF BULK AT MOST 1048576: true; the input reads as it did. -/
def vfsOnUptoRow : OpenClaim := { program := "ytpffanfpohajhaagreat", sum := "97b796dfd1137be150e097f902e42dfd66ce39046e295e2dd7678f0d8c12557f", func := "satchel/satchellaw10.VfsOn", spec := "vfsOn", inPlace := ["internal/bytealg.IndexByteString", "internal/bytealg.IndexString", "internal/bytealg.abigen_runtime_cmpstring"], unfollowed := true, recurses := true, named := ["internal/bytealg.MaxLen"], apart := false, narrowed := true }
def VfsOnUptoSaid : Prop := vfsOnUptoRow.holds Tryz.pinned (OpenSpec.upto vfsOnSpec)

/-- 'satchellaw10.VfsAlike', WHERE WHAT IT READS IS OF BULK AT MOST 1048576: true; the input reads as it did. -/
def vfsAlikeUptoRow : OpenClaim := { program := "ytpffanfpohajhaagreat", sum := "97b796dfd1137be150e097f902e42dfd66ce39046e295e2dd7678f0d8c12557f", func := "satchel/satchellaw10.VfsAlike", spec := "vfsAlike", inPlace := ["internal/bytealg.IndexByteString", "internal/bytealg.IndexString", "internal/bytealg.abigen_runtime_cmpstring"], unfollowed := true, recurses := true, named := ["internal/bytealg.MaxLen"], apart := false, narrowed := true }
def VfsAlikeUptoSaid : Prop := vfsAlikeUptoRow.holds Tryz.pinned (OpenSpec.upto vfsAlikeSpec)

/-- 'satchellaw10.VfsLoads', WHERE WHAT IT READS IS OF BULK AT MOST 1048576: true; the input reads as it did. -/
def vfsLoadsUptoRow : OpenClaim := { program := "ytpffanfpohajhaagreat", sum := "97b796dfd1137be150e097f902e42dfd66ce39046e295e2dd7678f0d8c12557f", func := "satchel/satchellaw10.VfsLoads", spec := "vfsLoads", inPlace := ["internal/bytealg.IndexByteString", "internal/bytealg.IndexString", "internal/bytealg.abigen_runtime_cmpstring"], unfollowed := true, recurses := true, named := ["internal/bytealg.MaxLen"], apart := false, narrowed := true }
def VfsLoadsUptoSaid : Prop := vfsLoadsUptoRow.holds Tryz.pinned (OpenSpec.upto vfsLoadsSpec)

/-- 'satchellaw10.VfsAll', WHERE WHAT IT READS IS OF BULK AT MOST 1048576: true; the input reads as it did. -/
def vfsAllUptoRow : OpenClaim := { program := "ytpffanfpohajhaagreat", sum := "97b796dfd1137be150e097f902e42dfd66ce39046e295e2dd7678f0d8c12557f", func := "satchel/satchellaw10.VfsAll", spec := "vfsAll", inPlace := ["internal/bytealg.IndexByteString", "internal/bytealg.IndexString", "internal/bytealg.abigen_runtime_cmpstring"], unfollowed := true, recurses := true, named := ["internal/bytealg.MaxLen"], apart := false, narrowed := true }
def VfsAllUptoSaid : Prop := vfsAllUptoRow.holds Tryz.pinned (OpenSpec.upto vfsAllSpec)

/-- 'satchellaw10.VfsSteps', WHERE WHAT IT READS IS OF BULK AT MOST 1048576: true; the input reads as it did. -/
def vfsStepsUptoRow : OpenClaim := { program := "ytpffanfpohajhaagreat", sum := "97b796dfd1137be150e097f902e42dfd66ce39046e295e2dd7678f0d8c12557f", func := "satchel/satchellaw10.VfsSteps", spec := "vfsSteps", inPlace := ["internal/bytealg.IndexByteString", "internal/bytealg.IndexString", "internal/bytealg.abigen_runtime_cmpstring"], unfollowed := true, recurses := true, named := ["internal/bytealg.MaxLen"], apart := false, narrowed := true }
def VfsStepsUptoSaid : Prop := vfsStepsUptoRow.holds Tryz.pinned (OpenSpec.upto vfsStepsSpec)

end Rows
end Go.Proofs.YtpffanfpohajhaaGreat
