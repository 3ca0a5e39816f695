/-
  No cell of these rows narrows 'for every input' (looked for: loops, veiled, ifaces, maps, wideKeys, modest, calm, conditions, laid).
  DERIVED. THE GIVEN ROWS OF THIS SEAT. 3 by the template 'for every input the law returns true; each argument reads behind the call as it read before'; 0 by the template 'total and deterministic' (their statements: YtnifhhaalmlmnaaTotals.lean).
  GIVEN WITH THE SEED: the statements are not yours to turn. If you find one false, say at which input.
  Laid BY PROGRAM, IN A SANDBOX (cutbox-rows.mjs): the forced cells as the released guide's own fill.sh prints them over the translation 819eb68ea493e529… (all of the seat's roots in one cut). By AI agents, Wed Nov 11 2026. No macro, syntax, notation, axiom, sorry.
-/
import Derived.Test.YtnifhhaalmlmnaaChecked
import GoSem.Claim
import GoSem.ClaimJoined
import GoSem.ClaimMapViews
import Derived.JoinedTies
import Derived.KernelRfl
namespace Go.Proofs.Ytnifhhaalmlmnaa
/- THE CELL 'sum', in the pinned program and in every row, IS THE sha256 OF THE DUMP (.gsa) THAT YtnifhhaalmlmnaaProg.lean LOADS. Nothing in Lean hashes anything: it is a label: what it is worth is what the hold of that sum in a sandbox is worth. -/
noncomputable def Try.pinned : Pinned := { name := "ytnifhhaalmlmnaa", sum := "819eb68ea493e5290c07742edeff814358c93e9450f4db98f4a32165919b996b", checked := Try.checked }
namespace Rows
def none {H : Type} : Left H := { results := [], args := [] }

/-- 'guidepostlaw13.SplitAlike': WHATEVER THE INPUT: true; the input reads as it did. -/
def splitAlikeSpec : ChangeSpec := { name := "splitAlike", fn := fun _ => fun
  | [d] => { results := [.lit (.bool true)], args := [d] }
  | _ => none }
def splitAlikeRow : OpenClaim := { program := "ytnifhhaalmlmnaa", sum := "819eb68ea493e5290c07742edeff814358c93e9450f4db98f4a32165919b996b", func := "guidepost/guidepostlaw13.SplitAlike", spec := "splitAlike", unfollowed := true, recurses := true, apart := false }
def SplitAlikeSaid : Prop := splitAlikeRow.holds Try.pinned (OpenSpec.ofChange splitAlikeSpec)

/-- ITS FALSE NEIGHBOUR: 'it returns false'. Refute it at one input. -/
def splitAlikeWrong : ChangeSpec := { name := "splitAlike", fn := fun _ => fun
  | [d] => { results := [.lit (.bool false)], args := [d] }
  | _ => none }
def SplitAlikeWrongFalsely : Prop := splitAlikeRow.holds Try.pinned (OpenSpec.ofChange splitAlikeWrong)

/-- 'guidepostlaw13.SplitPicks': WHATEVER THE INPUT: true; the input reads as it did. -/
def splitPicksSpec : ChangeSpec := { name := "splitPicks", fn := fun _ => fun
  | [d1, d2] => { results := [.lit (.bool true)], args := [d1, d2] }
  | _ => none }
def splitPicksRow : OpenClaim := { program := "ytnifhhaalmlmnaa", sum := "819eb68ea493e5290c07742edeff814358c93e9450f4db98f4a32165919b996b", func := "guidepost/guidepostlaw13.SplitPicks", spec := "splitPicks", unfollowed := true, recurses := true, apart := false }
def SplitPicksSaid : Prop := splitPicksRow.holds Try.pinned (OpenSpec.ofChange splitPicksSpec)

/-- ITS FALSE NEIGHBOUR: 'it returns false'. Refute it at one input. -/
def splitPicksWrong : ChangeSpec := { name := "splitPicks", fn := fun _ => fun
  | [d1, d2] => { results := [.lit (.bool false)], args := [d1, d2] }
  | _ => none }
def SplitPicksWrongFalsely : Prop := splitPicksRow.holds Try.pinned (OpenSpec.ofChange splitPicksWrong)

/-- 'guidepostlaw13.SplitShares': WHATEVER THE INPUT: true; the input reads as it did. -/
def splitSharesSpec : ChangeSpec := { name := "splitShares", fn := fun _ => fun
  | [d1, d2] => { results := [.lit (.bool true)], args := [d1, d2] }
  | _ => none }
def splitSharesRow : OpenClaim := { program := "ytnifhhaalmlmnaa", sum := "819eb68ea493e5290c07742edeff814358c93e9450f4db98f4a32165919b996b", func := "guidepost/guidepostlaw13.SplitShares", spec := "splitShares", unfollowed := true, recurses := true, apart := false }
def SplitSharesSaid : Prop := splitSharesRow.holds Try.pinned (OpenSpec.ofChange splitSharesSpec)

/-- ITS FALSE NEIGHBOUR: 'it returns false'. Refute it at one input. -/
def splitSharesWrong : ChangeSpec := { name := "splitShares", fn := fun _ => fun
  | [d1, d2] => { results := [.lit (.bool false)], args := [d1, d2] }
  | _ => none }
def SplitSharesWrongFalsely : Prop := splitSharesRow.holds Try.pinned (OpenSpec.ofChange splitSharesWrong)

/- THE SECOND FORM. 'bulk': how many values and letters a reading holds, each counted each time it is reached (what is shared counts as often as it is met; a slice's spare places count too). A statement '..UptoSaid' is the law's where the arguments, and the package variables that the reading takes, are together of bulk at most 1048576: NARROWER than '..Said'. Prove '..Said' where nothing that the law and all that it calls make is longer than what came in: it says more and counts as full. Else prove '..UptoSaid'. A law counts once. -/
mutual
def uptoBulk {H : Type} : DataW H → Nat
  | .lit (.string bytes) => bytes.length + 1
  | .lit _ => 1
  | .nil => 1
  | .ptr d => uptoBulk d + 1
  | .slice elems spare => uptoBulkAll elems + uptoBulkAll spare + 1
  | .agg parts => uptoBulkAll parts + 1
  | .iface _ d => uptoBulk d + 1
  | .map entries => uptoBulkEntries entries + 1
  | .held _ => 1
def uptoBulkAll {H : Type} : List (DataW H) → Nat
  | [] => 0
  | d :: r => uptoBulk d + uptoBulkAll r
def uptoBulkEntries {H : Type} : List (Lit × DataW H) → Nat
  | [] => 0
  | x :: r => uptoBulkEntry x + uptoBulkEntries r
def uptoBulkEntry {H : Type} : Lit × DataW H → Nat
  | (.string bytes, d) => bytes.length + uptoBulk d + 1
  | (_, d) => uptoBulk d + 1
 end
def uptoSmall : (H : Type) → List (DataW H) → Bool := fun _ ds => decide (uptoBulkAll ds ≤ 1048576)
def OpenSpec.upto (s : _root_.Go.ChangeSpec) : _root_.Go.OpenSpec := { _root_.Go.OpenSpec.ofChange s with cond := some uptoSmall }

/-- 'guidepostlaw13.SplitAlike', WHERE WHAT IT READS IS OF BULK AT MOST 1048576: true; the input reads as it did. -/
def splitAlikeUptoRow : OpenClaim := { program := "ytnifhhaalmlmnaa", sum := "819eb68ea493e5290c07742edeff814358c93e9450f4db98f4a32165919b996b", func := "guidepost/guidepostlaw13.SplitAlike", spec := "splitAlike", unfollowed := true, recurses := true, apart := false, narrowed := true }
def SplitAlikeUptoSaid : Prop := splitAlikeUptoRow.holds Try.pinned (OpenSpec.upto splitAlikeSpec)

/-- 'guidepostlaw13.SplitPicks', WHERE WHAT IT READS IS OF BULK AT MOST 1048576: true; the input reads as it did. -/
def splitPicksUptoRow : OpenClaim := { program := "ytnifhhaalmlmnaa", sum := "819eb68ea493e5290c07742edeff814358c93e9450f4db98f4a32165919b996b", func := "guidepost/guidepostlaw13.SplitPicks", spec := "splitPicks", unfollowed := true, recurses := true, apart := false, narrowed := true }
def SplitPicksUptoSaid : Prop := splitPicksUptoRow.holds Try.pinned (OpenSpec.upto splitPicksSpec)

/-- 'guidepostlaw13.SplitShares', WHERE WHAT IT READS IS OF BULK AT MOST 1048576: true; the input reads as it did. -/
def splitSharesUptoRow : OpenClaim := { program := "ytnifhhaalmlmnaa", sum := "819eb68ea493e5290c07742edeff814358c93e9450f4db98f4a32165919b996b", func := "guidepost/guidepostlaw13.SplitShares", spec := "splitShares", unfollowed := true, recurses := true, apart := false, narrowed := true }
def SplitSharesUptoSaid : Prop := splitSharesUptoRow.holds Try.pinned (OpenSpec.upto splitSharesSpec)

end Rows
end Go.Proofs.Ytnifhhaalmlmnaa
