/-
  No cell of these rows narrows 'for every input' (looked for: loops, veiled, ifaces, maps, wideKeys, modest, calm, conditions, laid).
  DERIVED. THE GIVEN ROWS OF THIS SEAT. 6 by the template 'for every input the law returns true; each argument reads behind the call as it read before'; 0 by the template 'total and deterministic' (their statements: YthlommalbkhcjaaGreatTotals.lean).
  GIVEN WITH THE SEED: the statements are not yours to turn. If you find one false, say at which input.
  Laid BY PROGRAM, IN A SANDBOX (cutbox-rows.mjs): the forced cells as the released guide's own fill.sh prints them over the translation e90c511114463225… (all of the seat's roots in one cut). By AI agents, Wed Nov 11 2026. No macro, syntax, notation, axiom, sorry.
-/
import Derived.Test.YthlommalbkhcjaaGreatChecked
import GoSem.Claim
import GoSem.ClaimJoined
import GoSem.ClaimMapViews
import Derived.JoinedTies
import Derived.KernelRfl
namespace Go.Proofs.YthlommalbkhcjaaGreat
/- THE CELL 'sum', in the pinned program and in every row, IS THE sha256 OF THE DUMP (.gsa) THAT YthlommalbkhcjaaGreatProg.lean LOADS. Nothing in Lean hashes anything: it is a label: what it is worth is what the hold of that sum in a sandbox is worth. -/
noncomputable def Tryz.pinned : Pinned := { name := "ythlommalbkhcjaagreat", sum := "e90c5111144632252e95f80c8d3db0ec8aa4f793cdb296aec7c954728ee04e67", checked := Tryz.checked }
namespace Rows
def none {H : Type} : Left H := { results := [], args := [] }

/-- 'guidepostlaw14.FibMakes': WHATEVER THE INPUT: true; the input reads as it did. -/
def fibMakesSpec : ChangeSpec := { name := "fibMakes", fn := fun _ => fun
  | [d1, d2, d3, d4] => { results := [.lit (.bool true)], args := [d1, d2, d3, d4] }
  | _ => none }
def fibMakesRow : OpenClaim := { program := "ythlommalbkhcjaagreat", sum := "e90c5111144632252e95f80c8d3db0ec8aa4f793cdb296aec7c954728ee04e67", func := "guidepost/guidepostlaw14.FibMakes", spec := "fibMakes", unfollowed := true, recurses := true, plainKeys := false, apart := false }
def FibMakesSaid : Prop := fibMakesRow.holds Tryz.pinned (OpenSpec.ofChange fibMakesSpec)

/-- ITS FALSE NEIGHBOUR: 'it returns false'. Refute it at one input. -/
def fibMakesWrong : ChangeSpec := { name := "fibMakes", fn := fun _ => fun
  | [d1, d2, d3, d4] => { results := [.lit (.bool false)], args := [d1, d2, d3, d4] }
  | _ => none }
def FibMakesWrongFalsely : Prop := fibMakesRow.holds Tryz.pinned (OpenSpec.ofChange fibMakesWrong)

/-- 'guidepostlaw18.FwdQuiet': WHATEVER THE INPUT: true; the input reads as it did. -/
def fwdQuietSpec : ChangeSpec := { name := "fwdQuiet", fn := fun _ => fun
  | [d1, d2] => { results := [.lit (.bool true)], args := [d1, d2] }
  | _ => none }
def fwdQuietRow : OpenClaim := { program := "ythlommalbkhcjaagreat", sum := "e90c5111144632252e95f80c8d3db0ec8aa4f793cdb296aec7c954728ee04e67", func := "guidepost/guidepostlaw18.FwdQuiet", spec := "fwdQuiet", unfollowed := true, recurses := true, plainKeys := false, apart := false }
def FwdQuietSaid : Prop := fwdQuietRow.holds Tryz.pinned (OpenSpec.ofChange fwdQuietSpec)

/-- ITS FALSE NEIGHBOUR: 'it returns false'. Refute it at one input. -/
def fwdQuietWrong : ChangeSpec := { name := "fwdQuiet", fn := fun _ => fun
  | [d1, d2] => { results := [.lit (.bool false)], args := [d1, d2] }
  | _ => none }
def FwdQuietWrongFalsely : Prop := fwdQuietRow.holds Tryz.pinned (OpenSpec.ofChange fwdQuietWrong)

/-- 'guidepostlaw18.FwdNil': WHATEVER THE INPUT: true; the input reads as it did. -/
def fwdNilSpec : ChangeSpec := { name := "fwdNil", fn := fun _ => fun
  | [] => { results := [.lit (.bool true)], args := [] }
  | _ => none }
def fwdNilRow : OpenClaim := { program := "ythlommalbkhcjaagreat", sum := "e90c5111144632252e95f80c8d3db0ec8aa4f793cdb296aec7c954728ee04e67", func := "guidepost/guidepostlaw18.FwdNil", spec := "fwdNil", unfollowed := true, recurses := true, plainKeys := false, apart := false }
def FwdNilSaid : Prop := fwdNilRow.holds Tryz.pinned (OpenSpec.ofChange fwdNilSpec)

/-- ITS FALSE NEIGHBOUR: 'it returns false'. Refute it at one input. -/
def fwdNilWrong : ChangeSpec := { name := "fwdNil", fn := fun _ => fun
  | [] => { results := [.lit (.bool false)], args := [] }
  | _ => none }
def FwdNilWrongFalsely : Prop := fwdNilRow.holds Tryz.pinned (OpenSpec.ofChange fwdNilWrong)

/-- 'guidepostlaw18.FwdJudges': WHATEVER THE INPUT: true; the input reads as it did. -/
def fwdJudgesSpec : ChangeSpec := { name := "fwdJudges", fn := fun _ => fun
  | [d1, d2] => { results := [.lit (.bool true)], args := [d1, d2] }
  | _ => none }
def fwdJudgesRow : OpenClaim := { program := "ythlommalbkhcjaagreat", sum := "e90c5111144632252e95f80c8d3db0ec8aa4f793cdb296aec7c954728ee04e67", func := "guidepost/guidepostlaw18.FwdJudges", spec := "fwdJudges", unfollowed := true, recurses := true, plainKeys := false, apart := false }
def FwdJudgesSaid : Prop := fwdJudgesRow.holds Tryz.pinned (OpenSpec.ofChange fwdJudgesSpec)

/-- ITS FALSE NEIGHBOUR: 'it returns false'. Refute it at one input. -/
def fwdJudgesWrong : ChangeSpec := { name := "fwdJudges", fn := fun _ => fun
  | [d1, d2] => { results := [.lit (.bool false)], args := [d1, d2] }
  | _ => none }
def FwdJudgesWrongFalsely : Prop := fwdJudgesRow.holds Tryz.pinned (OpenSpec.ofChange fwdJudgesWrong)

/-- 'guidepostlaw18.FwdNames': WHATEVER THE INPUT: true; the input reads as it did. -/
def fwdNamesSpec : ChangeSpec := { name := "fwdNames", fn := fun _ => fun
  | [d1, d2, d3] => { results := [.lit (.bool true)], args := [d1, d2, d3] }
  | _ => none }
def fwdNamesRow : OpenClaim := { program := "ythlommalbkhcjaagreat", sum := "e90c5111144632252e95f80c8d3db0ec8aa4f793cdb296aec7c954728ee04e67", func := "guidepost/guidepostlaw18.FwdNames", spec := "fwdNames", unfollowed := true, recurses := true, plainKeys := false, apart := false }
def FwdNamesSaid : Prop := fwdNamesRow.holds Tryz.pinned (OpenSpec.ofChange fwdNamesSpec)

/-- ITS FALSE NEIGHBOUR: 'it returns false'. Refute it at one input. -/
def fwdNamesWrong : ChangeSpec := { name := "fwdNames", fn := fun _ => fun
  | [d1, d2, d3] => { results := [.lit (.bool false)], args := [d1, d2, d3] }
  | _ => none }
def FwdNamesWrongFalsely : Prop := fwdNamesRow.holds Tryz.pinned (OpenSpec.ofChange fwdNamesWrong)

/-- 'guidepostlaw18.FwdWhole': WHATEVER THE INPUT: true; the input reads as it did. -/
def fwdWholeSpec : ChangeSpec := { name := "fwdWhole", fn := fun _ => fun
  | [d1, d2, d3] => { results := [.lit (.bool true)], args := [d1, d2, d3] }
  | _ => none }
def fwdWholeRow : OpenClaim := { program := "ythlommalbkhcjaagreat", sum := "e90c5111144632252e95f80c8d3db0ec8aa4f793cdb296aec7c954728ee04e67", func := "guidepost/guidepostlaw18.FwdWhole", spec := "fwdWhole", unfollowed := true, recurses := true, plainKeys := false, apart := false }
def FwdWholeSaid : Prop := fwdWholeRow.holds Tryz.pinned (OpenSpec.ofChange fwdWholeSpec)

/-- ITS FALSE NEIGHBOUR: 'it returns false'. Refute it at one input. -/
def fwdWholeWrong : ChangeSpec := { name := "fwdWhole", fn := fun _ => fun
  | [d1, d2, d3] => { results := [.lit (.bool false)], args := [d1, d2, d3] }
  | _ => none }
def FwdWholeWrongFalsely : Prop := fwdWholeRow.holds Tryz.pinned (OpenSpec.ofChange fwdWholeWrong)

/- THE SECOND FORM. 'bulk': how many values and letters a reading holds, each counted each time it is reached (what is shared counts as often as it is met; a slice's spare places count too). A statement '..UptoSaid' is the law's where the arguments, and the package variables that the reading takes, are together of bulk at most 1048576: NARROWER than '..Said'. Prove '..Said' where nothing that the law and all that it calls make is longer than what came in: it says more and counts as full. Else prove '..UptoSaid'. A law counts once. -/
mutual
def uptoBulk {H : Type} : DataW H → Nat
  | .lit (.string bytes) => bytes.length + 1
  | .lit _ => 1
  | .nil => 1
  | .ptr d => uptoBulk d + 1
  | .slice elems spare => uptoBulkAll elems + uptoBulkAll spare + 1
  | .agg parts => uptoBulkAll parts + 1
  | .iface _ d => uptoBulk d + 1
  | .map entries => uptoBulkEntries entries + 1
  | .held _ => 1
def uptoBulkAll {H : Type} : List (DataW H) → Nat
  | [] => 0
  | d :: r => uptoBulk d + uptoBulkAll r
def uptoBulkEntries {H : Type} : List (Lit × DataW H) → Nat
  | [] => 0
  | x :: r => uptoBulkEntry x + uptoBulkEntries r
def uptoBulkEntry {H : Type} : Lit × DataW H → Nat
  | (.string bytes, d) => bytes.length + uptoBulk d + 1
  | (_, d) => uptoBulk d + 1
 end
def uptoSmall : (H : Type) → List (DataW H) → Bool := fun _ ds => decide (uptoBulkAll ds ≤ 1048576)
def OpenSpec.upto (s : _root_.Go.ChangeSpec) : _root_.Go.OpenSpec := { _root_.Go.OpenSpec.ofChange s with cond := some uptoSmall }

/-- 'guidepostlaw14.FibMakes', WHERE WHAT IT READS IS OF BULK AT MOST 1048576: true; the input reads as it did. -/
def fibMakesUptoRow : OpenClaim := { program := "ythlommalbkhcjaagreat", sum := "e90c5111144632252e95f80c8d3db0ec8aa4f793cdb296aec7c954728ee04e67", func := "guidepost/guidepostlaw14.FibMakes", spec := "fibMakes", unfollowed := true, recurses := true, plainKeys := false, apart := false, narrowed := true }
def FibMakesUptoSaid : Prop := fibMakesUptoRow.holds Tryz.pinned (OpenSpec.upto fibMakesSpec)

/-- 'guidepostlaw18.FwdQuiet', WHERE WHAT IT READS IS OF BULK AT MOST 1048576: true; the input reads as it did. -/
def fwdQuietUptoRow : OpenClaim := { program := "ythlommalbkhcjaagreat", sum := "e90c5111144632252e95f80c8d3db0ec8aa4f793cdb296aec7c954728ee04e67", func := "guidepost/guidepostlaw18.FwdQuiet", spec := "fwdQuiet", unfollowed := true, recurses := true, plainKeys := false, apart := false, narrowed := true }
def FwdQuietUptoSaid : Prop := fwdQuietUptoRow.holds Tryz.pinned (OpenSpec.upto fwdQuietSpec)

/-- 'guidepostlaw18.FwdNil', WHERE WHAT IT READS IS OF BULK AT MOST 1048576: true; the input reads as it did. -/
def fwdNilUptoRow : OpenClaim := { program := "ythlommalbkhcjaagreat", sum := "e90c5111144632252e95f80c8d3db0ec8aa4f793cdb296aec7c954728ee04e67", func := "guidepost/guidepostlaw18.FwdNil", spec := "fwdNil", unfollowed := true, recurses := true, plainKeys := false, apart := false, narrowed := true }
def FwdNilUptoSaid : Prop := fwdNilUptoRow.holds Tryz.pinned (OpenSpec.upto fwdNilSpec)

/-- 'guidepostlaw18.FwdJudges', WHERE WHAT IT READS IS OF BULK AT MOST 1048576: true; the input reads as it did. -/
def fwdJudgesUptoRow : OpenClaim := { program := "ythlommalbkhcjaagreat", sum := "e90c5111144632252e95f80c8d3db0ec8aa4f793cdb296aec7c954728ee04e67", func := "guidepost/guidepostlaw18.FwdJudges", spec := "fwdJudges", unfollowed := true, recurses := true, plainKeys := false, apart := false, narrowed := true }
def FwdJudgesUptoSaid : Prop := fwdJudgesUptoRow.holds Tryz.pinned (OpenSpec.upto fwdJudgesSpec)

/-- 'guidepostlaw18.FwdNames', WHERE WHAT IT READS IS OF BULK AT MOST 1048576: true; the input reads as it did. -/
def fwdNamesUptoRow : OpenClaim := { program := "ythlommalbkhcjaagreat", sum := "e90c5111144632252e95f80c8d3db0ec8aa4f793cdb296aec7c954728ee04e67", func := "guidepost/guidepostlaw18.FwdNames", spec := "fwdNames", unfollowed := true, recurses := true, plainKeys := false, apart := false, narrowed := true }
def FwdNamesUptoSaid : Prop := fwdNamesUptoRow.holds Tryz.pinned (OpenSpec.upto fwdNamesSpec)

/-- 'guidepostlaw18.FwdWhole', WHERE WHAT IT READS IS OF BULK AT MOST 1048576: true; the input reads as it did. -/
def fwdWholeUptoRow : OpenClaim := { program := "ythlommalbkhcjaagreat", sum := "e90c5111144632252e95f80c8d3db0ec8aa4f793cdb296aec7c954728ee04e67", func := "guidepost/guidepostlaw18.FwdWhole", spec := "fwdWhole", unfollowed := true, recurses := true, plainKeys := false, apart := false, narrowed := true }
def FwdWholeUptoSaid : Prop := fwdWholeUptoRow.holds Tryz.pinned (OpenSpec.upto fwdWholeSpec)

end Rows
end Go.Proofs.YthlommalbkhcjaaGreat
