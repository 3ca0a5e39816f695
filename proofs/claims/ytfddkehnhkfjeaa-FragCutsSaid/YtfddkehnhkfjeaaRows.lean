/-
  No cell of these rows narrows 'for every input' (looked for: loops, veiled, ifaces, maps, wideKeys, modest, calm, conditions, laid).
  DERIVED. THE GIVEN ROWS OF THIS SEAT. 12 by the template 'for every input the law returns true; each argument reads behind the call as it read before'; 0 by the template 'total and deterministic' (their statements: YtfddkehnhkfjeaaTotals.lean).
  GIVEN WITH THE SEED: the statements are not yours to turn. If you find one false, say at which input.
  Laid BY PROGRAM, IN A SANDBOX (cutbox-rows.mjs): the forced cells as the released guide's own fill.sh prints them over the translation 949b3b266c86374e… (all of the seat's roots in one cut). By AI agents, Wed Nov 11 2026. No macro, syntax, notation, axiom, sorry.
-/
import Derived.Test.YtfddkehnhkfjeaaChecked
import GoSem.Claim
import GoSem.ClaimJoined
import GoSem.ClaimMapViews
import Derived.JoinedTies
import Derived.KernelRfl
namespace Go.Proofs.Ytfddkehnhkfjeaa
/- THE CELL 'sum', in the pinned program and in every row, IS THE sha256 OF THE DUMP (.gsa) THAT YtfddkehnhkfjeaaProg.lean LOADS. Nothing in Lean hashes anything: it is a label: what it is worth is what the hold of that sum in a sandbox is worth. -/
noncomputable def Try.pinned : Pinned := { name := "ytfddkehnhkfjeaa", sum := "949b3b266c86374ed424a0af5f6993ca7712e620e33f9810a80ac7a7313bd651", checked := Try.checked }
namespace Rows
def none {H : Type} : Left H := { results := [], args := [] }

/-- 'guidepostlaw03.IpParses': WHATEVER THE INPUT: true; the input reads as it did. -/
def ipParsesSpec : ChangeSpec := { name := "ipParses", fn := fun _ => fun
  | [d] => { results := [.lit (.bool true)], args := [d] }
  | _ => none }
def ipParsesRow : OpenClaim := { program := "ytfddkehnhkfjeaa", sum := "949b3b266c86374ed424a0af5f6993ca7712e620e33f9810a80ac7a7313bd651", func := "guidepost/guidepostlaw03.IpParses", spec := "ipParses", unfollowed := true, recurses := true, apart := false }
def IpParsesSaid : Prop := ipParsesRow.holds Try.pinned (OpenSpec.ofChange ipParsesSpec)

/-- ITS FALSE NEIGHBOUR: 'it returns false'. Refute it at one input. -/
def ipParsesWrong : ChangeSpec := { name := "ipParses", fn := fun _ => fun
  | [d] => { results := [.lit (.bool false)], args := [d] }
  | _ => none }
def IpParsesWrongFalsely : Prop := ipParsesRow.holds Try.pinned (OpenSpec.ofChange ipParsesWrong)

/-- 'guidepostlaw03.IpOptions': WHATEVER THE INPUT: true; the input reads as it did. -/
def ipOptionsSpec : ChangeSpec := { name := "ipOptions", fn := fun _ => fun
  | [d] => { results := [.lit (.bool true)], args := [d] }
  | _ => none }
def ipOptionsRow : OpenClaim := { program := "ytfddkehnhkfjeaa", sum := "949b3b266c86374ed424a0af5f6993ca7712e620e33f9810a80ac7a7313bd651", func := "guidepost/guidepostlaw03.IpOptions", spec := "ipOptions", unfollowed := true, recurses := true, apart := false }
def IpOptionsSaid : Prop := ipOptionsRow.holds Try.pinned (OpenSpec.ofChange ipOptionsSpec)

/-- ITS FALSE NEIGHBOUR: 'it returns false'. Refute it at one input. -/
def ipOptionsWrong : ChangeSpec := { name := "ipOptions", fn := fun _ => fun
  | [d] => { results := [.lit (.bool false)], args := [d] }
  | _ => none }
def IpOptionsWrongFalsely : Prop := ipOptionsRow.holds Try.pinned (OpenSpec.ofChange ipOptionsWrong)

/-- 'guidepostlaw03.IpOptionsMean': WHATEVER THE INPUT: true; the input reads as it did. -/
def ipOptionsMeanSpec : ChangeSpec := { name := "ipOptionsMean", fn := fun _ => fun
  | [d] => { results := [.lit (.bool true)], args := [d] }
  | _ => none }
def ipOptionsMeanRow : OpenClaim := { program := "ytfddkehnhkfjeaa", sum := "949b3b266c86374ed424a0af5f6993ca7712e620e33f9810a80ac7a7313bd651", func := "guidepost/guidepostlaw03.IpOptionsMean", spec := "ipOptionsMean", unfollowed := true, recurses := true, apart := false }
def IpOptionsMeanSaid : Prop := ipOptionsMeanRow.holds Try.pinned (OpenSpec.ofChange ipOptionsMeanSpec)

/-- ITS FALSE NEIGHBOUR: 'it returns false'. Refute it at one input. -/
def ipOptionsMeanWrong : ChangeSpec := { name := "ipOptionsMean", fn := fun _ => fun
  | [d] => { results := [.lit (.bool false)], args := [d] }
  | _ => none }
def IpOptionsMeanWrongFalsely : Prop := ipOptionsMeanRow.holds Try.pinned (OpenSpec.ofChange ipOptionsMeanWrong)

/-- 'guidepostlaw03.IpLess': WHATEVER THE INPUT: true; the input reads as it did. -/
def ipLessSpec : ChangeSpec := { name := "ipLess", fn := fun _ => fun
  | [d] => { results := [.lit (.bool true)], args := [d] }
  | _ => none }
def ipLessRow : OpenClaim := { program := "ytfddkehnhkfjeaa", sum := "949b3b266c86374ed424a0af5f6993ca7712e620e33f9810a80ac7a7313bd651", func := "guidepost/guidepostlaw03.IpLess", spec := "ipLess", unfollowed := true, recurses := true, apart := false }
def IpLessSaid : Prop := ipLessRow.holds Try.pinned (OpenSpec.ofChange ipLessSpec)

/-- ITS FALSE NEIGHBOUR: 'it returns false'. Refute it at one input. -/
def ipLessWrong : ChangeSpec := { name := "ipLess", fn := fun _ => fun
  | [d] => { results := [.lit (.bool false)], args := [d] }
  | _ => none }
def IpLessWrongFalsely : Prop := ipLessRow.holds Try.pinned (OpenSpec.ofChange ipLessWrong)

/-- 'guidepostlaw03.IpMeans': WHATEVER THE INPUT: true; the input reads as it did. -/
def ipMeansSpec : ChangeSpec := { name := "ipMeans", fn := fun _ => fun
  | [d1, d2, d3] => { results := [.lit (.bool true)], args := [d1, d2, d3] }
  | _ => none }
def ipMeansRow : OpenClaim := { program := "ytfddkehnhkfjeaa", sum := "949b3b266c86374ed424a0af5f6993ca7712e620e33f9810a80ac7a7313bd651", func := "guidepost/guidepostlaw03.IpMeans", spec := "ipMeans", unfollowed := true, recurses := true, apart := false }
def IpMeansSaid : Prop := ipMeansRow.holds Try.pinned (OpenSpec.ofChange ipMeansSpec)

/-- ITS FALSE NEIGHBOUR: 'it returns false'. Refute it at one input. -/
def ipMeansWrong : ChangeSpec := { name := "ipMeans", fn := fun _ => fun
  | [d1, d2, d3] => { results := [.lit (.bool false)], args := [d1, d2, d3] }
  | _ => none }
def IpMeansWrongFalsely : Prop := ipMeansRow.holds Try.pinned (OpenSpec.ofChange ipMeansWrong)

/-- 'guidepostlaw03.IpBytes': WHATEVER THE INPUT: true; the input reads as it did. -/
def ipBytesSpec : ChangeSpec := { name := "ipBytes", fn := fun _ => fun
  | [d1, d2, d3] => { results := [.lit (.bool true)], args := [d1, d2, d3] }
  | _ => none }
def ipBytesRow : OpenClaim := { program := "ytfddkehnhkfjeaa", sum := "949b3b266c86374ed424a0af5f6993ca7712e620e33f9810a80ac7a7313bd651", func := "guidepost/guidepostlaw03.IpBytes", spec := "ipBytes", unfollowed := true, recurses := true, apart := false }
def IpBytesSaid : Prop := ipBytesRow.holds Try.pinned (OpenSpec.ofChange ipBytesSpec)

/-- ITS FALSE NEIGHBOUR: 'it returns false'. Refute it at one input. -/
def ipBytesWrong : ChangeSpec := { name := "ipBytes", fn := fun _ => fun
  | [d1, d2, d3] => { results := [.lit (.bool false)], args := [d1, d2, d3] }
  | _ => none }
def IpBytesWrongFalsely : Prop := ipBytesRow.holds Try.pinned (OpenSpec.ofChange ipBytesWrong)

/-- 'guidepostlaw15.FragAgain': WHATEVER THE INPUT: true; the input reads as it did. -/
def fragAgainSpec : ChangeSpec := { name := "fragAgain", fn := fun _ => fun
  | [d1, d2, d3, d4] => { results := [.lit (.bool true)], args := [d1, d2, d3, d4] }
  | _ => none }
def fragAgainRow : OpenClaim := { program := "ytfddkehnhkfjeaa", sum := "949b3b266c86374ed424a0af5f6993ca7712e620e33f9810a80ac7a7313bd651", func := "guidepost/guidepostlaw15.FragAgain", spec := "fragAgain", unfollowed := true, recurses := true, apart := false }
def FragAgainSaid : Prop := fragAgainRow.holds Try.pinned (OpenSpec.ofChange fragAgainSpec)

/-- ITS FALSE NEIGHBOUR: 'it returns false'. Refute it at one input. -/
def fragAgainWrong : ChangeSpec := { name := "fragAgain", fn := fun _ => fun
  | [d1, d2, d3, d4] => { results := [.lit (.bool false)], args := [d1, d2, d3, d4] }
  | _ => none }
def FragAgainWrongFalsely : Prop := fragAgainRow.holds Try.pinned (OpenSpec.ofChange fragAgainWrong)

/-- 'guidepostlaw15.FragCuts': WHATEVER THE INPUT: true; the input reads as it did. -/
def fragCutsSpec : ChangeSpec := { name := "fragCuts", fn := fun _ => fun
  | [d1, d2, d3] => { results := [.lit (.bool true)], args := [d1, d2, d3] }
  | _ => none }
def fragCutsRow : OpenClaim := { program := "ytfddkehnhkfjeaa", sum := "949b3b266c86374ed424a0af5f6993ca7712e620e33f9810a80ac7a7313bd651", func := "guidepost/guidepostlaw15.FragCuts", spec := "fragCuts", unfollowed := true, recurses := true, apart := false }
def FragCutsSaid : Prop := fragCutsRow.holds Try.pinned (OpenSpec.ofChange fragCutsSpec)

/-- ITS FALSE NEIGHBOUR: 'it returns false'. Refute it at one input. -/
def fragCutsWrong : ChangeSpec := { name := "fragCuts", fn := fun _ => fun
  | [d1, d2, d3] => { results := [.lit (.bool false)], args := [d1, d2, d3] }
  | _ => none }
def FragCutsWrongFalsely : Prop := fragCutsRow.holds Try.pinned (OpenSpec.ofChange fragCutsWrong)

/-- 'guidepostlaw15.FragMany': WHATEVER THE INPUT: true; the input reads as it did. -/
def fragManySpec : ChangeSpec := { name := "fragMany", fn := fun _ => fun
  | [d1, d2, d3, d4] => { results := [.lit (.bool true)], args := [d1, d2, d3, d4] }
  | _ => none }
def fragManyRow : OpenClaim := { program := "ytfddkehnhkfjeaa", sum := "949b3b266c86374ed424a0af5f6993ca7712e620e33f9810a80ac7a7313bd651", func := "guidepost/guidepostlaw15.FragMany", spec := "fragMany", unfollowed := true, recurses := true, apart := false }
def FragManySaid : Prop := fragManyRow.holds Try.pinned (OpenSpec.ofChange fragManySpec)

/-- ITS FALSE NEIGHBOUR: 'it returns false'. Refute it at one input. -/
def fragManyWrong : ChangeSpec := { name := "fragMany", fn := fun _ => fun
  | [d1, d2, d3, d4] => { results := [.lit (.bool false)], args := [d1, d2, d3, d4] }
  | _ => none }
def FragManyWrongFalsely : Prop := fragManyRow.holds Try.pinned (OpenSpec.ofChange fragManyWrong)

/-- 'guidepostlaw15.FragMeans': WHATEVER THE INPUT: true; the input reads as it did. -/
def fragMeansSpec : ChangeSpec := { name := "fragMeans", fn := fun _ => fun
  | [d1, d2, d3] => { results := [.lit (.bool true)], args := [d1, d2, d3] }
  | _ => none }
def fragMeansRow : OpenClaim := { program := "ytfddkehnhkfjeaa", sum := "949b3b266c86374ed424a0af5f6993ca7712e620e33f9810a80ac7a7313bd651", func := "guidepost/guidepostlaw15.FragMeans", spec := "fragMeans", unfollowed := true, recurses := true, apart := false }
def FragMeansSaid : Prop := fragMeansRow.holds Try.pinned (OpenSpec.ofChange fragMeansSpec)

/-- ITS FALSE NEIGHBOUR: 'it returns false'. Refute it at one input. -/
def fragMeansWrong : ChangeSpec := { name := "fragMeans", fn := fun _ => fun
  | [d1, d2, d3] => { results := [.lit (.bool false)], args := [d1, d2, d3] }
  | _ => none }
def FragMeansWrongFalsely : Prop := fragMeansRow.holds Try.pinned (OpenSpec.ofChange fragMeansWrong)

/-- 'guidepostlaw13.SplitHashes': WHATEVER THE INPUT: true; the input reads as it did. -/
def splitHashesSpec : ChangeSpec := { name := "splitHashes", fn := fun _ => fun
  | [d] => { results := [.lit (.bool true)], args := [d] }
  | _ => none }
def splitHashesRow : OpenClaim := { program := "ytfddkehnhkfjeaa", sum := "949b3b266c86374ed424a0af5f6993ca7712e620e33f9810a80ac7a7313bd651", func := "guidepost/guidepostlaw13.SplitHashes", spec := "splitHashes", unfollowed := true, recurses := true, apart := false }
def SplitHashesSaid : Prop := splitHashesRow.holds Try.pinned (OpenSpec.ofChange splitHashesSpec)

/-- ITS FALSE NEIGHBOUR: 'it returns false'. Refute it at one input. -/
def splitHashesWrong : ChangeSpec := { name := "splitHashes", fn := fun _ => fun
  | [d] => { results := [.lit (.bool false)], args := [d] }
  | _ => none }
def SplitHashesWrongFalsely : Prop := splitHashesRow.holds Try.pinned (OpenSpec.ofChange splitHashesWrong)

/-- 'guidepostlaw13.SplitMeans': WHATEVER THE INPUT: true; the input reads as it did. -/
def splitMeansSpec : ChangeSpec := { name := "splitMeans", fn := fun _ => fun
  | [d1, d2, d3, d4, d5] => { results := [.lit (.bool true)], args := [d1, d2, d3, d4, d5] }
  | _ => none }
def splitMeansRow : OpenClaim := { program := "ytfddkehnhkfjeaa", sum := "949b3b266c86374ed424a0af5f6993ca7712e620e33f9810a80ac7a7313bd651", func := "guidepost/guidepostlaw13.SplitMeans", spec := "splitMeans", unfollowed := true, recurses := true, apart := false }
def SplitMeansSaid : Prop := splitMeansRow.holds Try.pinned (OpenSpec.ofChange splitMeansSpec)

/-- ITS FALSE NEIGHBOUR: 'it returns false'. Refute it at one input. -/
def splitMeansWrong : ChangeSpec := { name := "splitMeans", fn := fun _ => fun
  | [d1, d2, d3, d4, d5] => { results := [.lit (.bool false)], args := [d1, d2, d3, d4, d5] }
  | _ => none }
def SplitMeansWrongFalsely : Prop := splitMeansRow.holds Try.pinned (OpenSpec.ofChange splitMeansWrong)

/- THE SECOND FORM. 'bulk': how many values and letters a reading holds, each counted each time it is reached (what is shared counts as often as it is met; a slice's spare places count too). A statement '..UptoSaid' is the law's where the arguments, and the package variables that the reading takes, are together of bulk at most 1048576: NARROWER than '..Said'. Prove '..Said' where nothing that the law and all that it calls make is longer than what came in: it says more and counts as full. Else prove '..UptoSaid'. A law counts once. -/
mutual
def uptoBulk {H : Type} : DataW H → Nat
  | .lit (.string bytes) => bytes.length + 1
  | .lit _ => 1
  | .nil => 1
  | .ptr d => uptoBulk d + 1
  | .slice elems spare => uptoBulkAll elems + uptoBulkAll spare + 1
  | .agg parts => uptoBulkAll parts + 1
  | .iface _ d => uptoBulk d + 1
  | .map entries => uptoBulkEntries entries + 1
  | .held _ => 1
def uptoBulkAll {H : Type} : List (DataW H) → Nat
  | [] => 0
  | d :: r => uptoBulk d + uptoBulkAll r
def uptoBulkEntries {H : Type} : List (Lit × DataW H) → Nat
  | [] => 0
  | x :: r => uptoBulkEntry x + uptoBulkEntries r
def uptoBulkEntry {H : Type} : Lit × DataW H → Nat
  | (.string bytes, d) => bytes.length + uptoBulk d + 1
  | (_, d) => uptoBulk d + 1
 end
def uptoSmall : (H : Type) → List (DataW H) → Bool := fun _ ds => decide (uptoBulkAll ds ≤ 1048576)
def OpenSpec.upto (s : _root_.Go.ChangeSpec) : _root_.Go.OpenSpec := { _root_.Go.OpenSpec.ofChange s with cond := some uptoSmall }

/-- 'guidepostlaw03.IpParses', WHERE WHAT IT READS IS OF BULK AT MOST 1048576: true; the input reads as it did. -/
def ipParsesUptoRow : OpenClaim := { program := "ytfddkehnhkfjeaa", sum := "949b3b266c86374ed424a0af5f6993ca7712e620e33f9810a80ac7a7313bd651", func := "guidepost/guidepostlaw03.IpParses", spec := "ipParses", unfollowed := true, recurses := true, apart := false, narrowed := true }
def IpParsesUptoSaid : Prop := ipParsesUptoRow.holds Try.pinned (OpenSpec.upto ipParsesSpec)

/-- 'guidepostlaw03.IpOptions', WHERE WHAT IT READS IS OF BULK AT MOST 1048576: true; the input reads as it did. -/
def ipOptionsUptoRow : OpenClaim := { program := "ytfddkehnhkfjeaa", sum := "949b3b266c86374ed424a0af5f6993ca7712e620e33f9810a80ac7a7313bd651", func := "guidepost/guidepostlaw03.IpOptions", spec := "ipOptions", unfollowed := true, recurses := true, apart := false, narrowed := true }
def IpOptionsUptoSaid : Prop := ipOptionsUptoRow.holds Try.pinned (OpenSpec.upto ipOptionsSpec)

/-- 'guidepostlaw03.IpOptionsMean', WHERE WHAT IT READS IS OF BULK AT MOST 1048576: true; the input reads as it did. -/
def ipOptionsMeanUptoRow : OpenClaim := { program := "ytfddkehnhkfjeaa", sum := "949b3b266c86374ed424a0af5f6993ca7712e620e33f9810a80ac7a7313bd651", func := "guidepost/guidepostlaw03.IpOptionsMean", spec := "ipOptionsMean", unfollowed := true, recurses := true, apart := false, narrowed := true }
def IpOptionsMeanUptoSaid : Prop := ipOptionsMeanUptoRow.holds Try.pinned (OpenSpec.upto ipOptionsMeanSpec)

/-- 'guidepostlaw03.IpLess', WHERE WHAT IT READS IS OF BULK AT MOST 1048576: true; the input reads as it did. -/
def ipLessUptoRow : OpenClaim := { program := "ytfddkehnhkfjeaa", sum := "949b3b266c86374ed424a0af5f6993ca7712e620e33f9810a80ac7a7313bd651", func := "guidepost/guidepostlaw03.IpLess", spec := "ipLess", unfollowed := true, recurses := true, apart := false, narrowed := true }
def IpLessUptoSaid : Prop := ipLessUptoRow.holds Try.pinned (OpenSpec.upto ipLessSpec)

/-- 'guidepostlaw03.IpMeans', WHERE WHAT IT READS IS OF BULK AT MOST 1048576: true; the input reads as it did. -/
def ipMeansUptoRow : OpenClaim := { program := "ytfddkehnhkfjeaa", sum := "949b3b266c86374ed424a0af5f6993ca7712e620e33f9810a80ac7a7313bd651", func := "guidepost/guidepostlaw03.IpMeans", spec := "ipMeans", unfollowed := true, recurses := true, apart := false, narrowed := true }
def IpMeansUptoSaid : Prop := ipMeansUptoRow.holds Try.pinned (OpenSpec.upto ipMeansSpec)

/-- 'guidepostlaw03.IpBytes', WHERE WHAT IT READS IS OF BULK AT MOST 1048576: true; the input reads as it did. -/
def ipBytesUptoRow : OpenClaim := { program := "ytfddkehnhkfjeaa", sum := "949b3b266c86374ed424a0af5f6993ca7712e620e33f9810a80ac7a7313bd651", func := "guidepost/guidepostlaw03.IpBytes", spec := "ipBytes", unfollowed := true, recurses := true, apart := false, narrowed := true }
def IpBytesUptoSaid : Prop := ipBytesUptoRow.holds Try.pinned (OpenSpec.upto ipBytesSpec)

/-- 'guidepostlaw15.FragAgain', WHERE WHAT IT READS IS OF BULK AT MOST 1048576: true; the input reads as it did. -/
def fragAgainUptoRow : OpenClaim := { program := "ytfddkehnhkfjeaa", sum := "949b3b266c86374ed424a0af5f6993ca7712e620e33f9810a80ac7a7313bd651", func := "guidepost/guidepostlaw15.FragAgain", spec := "fragAgain", unfollowed := true, recurses := true, apart := false, narrowed := true }
def FragAgainUptoSaid : Prop := fragAgainUptoRow.holds Try.pinned (OpenSpec.upto fragAgainSpec)

/-- 'guidepostlaw15.FragCuts', WHERE WHAT IT READS IS OF BULK AT MOST 1048576: true; the input reads as it did. -/
def fragCutsUptoRow : OpenClaim := { program := "ytfddkehnhkfjeaa", sum := "949b3b266c86374ed424a0af5f6993ca7712e620e33f9810a80ac7a7313bd651", func := "guidepost/guidepostlaw15.FragCuts", spec := "fragCuts", unfollowed := true, recurses := true, apart := false, narrowed := true }
def FragCutsUptoSaid : Prop := fragCutsUptoRow.holds Try.pinned (OpenSpec.upto fragCutsSpec)

/-- 'guidepostlaw15.FragMany', WHERE WHAT IT READS IS OF BULK AT MOST 1048576: true; the input reads as it did. -/
def fragManyUptoRow : OpenClaim := { program := "ytfddkehnhkfjeaa", sum := "949b3b266c86374ed424a0af5f6993ca7712e620e33f9810a80ac7a7313bd651", func := "guidepost/guidepostlaw15.FragMany", spec := "fragMany", unfollowed := true, recurses := true, apart := false, narrowed := true }
def FragManyUptoSaid : Prop := fragManyUptoRow.holds Try.pinned (OpenSpec.upto fragManySpec)

/-- 'guidepostlaw15.FragMeans', WHERE WHAT IT READS IS OF BULK AT MOST 1048576: true; the input reads as it did. -/
def fragMeansUptoRow : OpenClaim := { program := "ytfddkehnhkfjeaa", sum := "949b3b266c86374ed424a0af5f6993ca7712e620e33f9810a80ac7a7313bd651", func := "guidepost/guidepostlaw15.FragMeans", spec := "fragMeans", unfollowed := true, recurses := true, apart := false, narrowed := true }
def FragMeansUptoSaid : Prop := fragMeansUptoRow.holds Try.pinned (OpenSpec.upto fragMeansSpec)

/-- 'guidepostlaw13.SplitHashes', WHERE WHAT IT READS IS OF BULK AT MOST 1048576: true; the input reads as it did. -/
def splitHashesUptoRow : OpenClaim := { program := "ytfddkehnhkfjeaa", sum := "949b3b266c86374ed424a0af5f6993ca7712e620e33f9810a80ac7a7313bd651", func := "guidepost/guidepostlaw13.SplitHashes", spec := "splitHashes", unfollowed := true, recurses := true, apart := false, narrowed := true }
def SplitHashesUptoSaid : Prop := splitHashesUptoRow.holds Try.pinned (OpenSpec.upto splitHashesSpec)

/-- 'guidepostlaw13.SplitMeans', WHERE WHAT IT READS IS OF BULK AT MOST 1048576: true; the input reads as it did. -/
def splitMeansUptoRow : OpenClaim := { program := "ytfddkehnhkfjeaa", sum := "949b3b266c86374ed424a0af5f6993ca7712e620e33f9810a80ac7a7313bd651", func := "guidepost/guidepostlaw13.SplitMeans", spec := "splitMeans", unfollowed := true, recurses := true, apart := false, narrowed := true }
def SplitMeansUptoSaid : Prop := splitMeansUptoRow.holds Try.pinned (OpenSpec.upto splitMeansSpec)

end Rows
end Go.Proofs.Ytfddkehnhkfjeaa
