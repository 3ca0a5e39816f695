/-
  No cell of these rows narrows 'for every input' (looked for: loops, veiled, ifaces, maps, wideKeys, modest, calm, conditions, laid).
  DERIVED. THE GIVEN ROWS OF THIS SEAT. 5 by the template 'for every input the law returns true; each argument reads behind the call as it read before'; 0 by the template 'total and deterministic' (their statements: YtmkjnblmgofoeaaTotals.lean).
  GIVEN WITH THE SEED: the statements are not yours to turn. If you find one false, say at which input.
  Laid BY PROGRAM, IN A SANDBOX (cutbox-rows.mjs): the forced cells as the released guide's own fill.sh prints them over the translation 81d6901315154114… (all of the seat's roots in one cut). By AI agents, Wed Nov 11 2026. No macro, syntax, notation, axiom, sorry.
-/
import Derived.Test.YtmkjnblmgofoeaaChecked
import GoSem.Claim
import GoSem.ClaimJoined
import GoSem.ClaimMapViews
import Derived.JoinedTies
import Derived.KernelRfl
namespace Go.Proofs.Ytmkjnblmgofoeaa
/- THE CELL 'sum', in the pinned program and in every row, IS THE sha256 OF THE DUMP (.gsa) THAT YtmkjnblmgofoeaaProg.lean LOADS. Nothing in Lean hashes anything: it is a label: what it is worth is what the hold of that sum in a sandbox is worth. -/
noncomputable def Try.pinned : Pinned := { name := "ytmkjnblmgofoeaa", sum := "81d6901315154114a00f3fcc290d46abf4e4cdceef6910a8b82972a3bc3d65cb", checked := Try.checked }
namespace Rows
def none {H : Type} : Left H := { results := [], args := [] }

/-- 'guidepostlaw11.RelAcks': WHATEVER THE INPUT: true; the input reads as it did. -/
def relAcksSpec : ChangeSpec := { name := "relAcks", fn := fun _ => fun
  | [d] => { results := [.lit (.bool true)], args := [d] }
  | _ => none }
def relAcksRow : OpenClaim := { program := "ytmkjnblmgofoeaa", sum := "81d6901315154114a00f3fcc290d46abf4e4cdceef6910a8b82972a3bc3d65cb", func := "guidepost/guidepostlaw11.RelAcks", spec := "relAcks", unfollowed := true, recurses := true, apart := false }
def RelAcksSaid : Prop := relAcksRow.holds Try.pinned (OpenSpec.ofChange relAcksSpec)

/-- ITS FALSE NEIGHBOUR: 'it returns false'. Refute it at one input. -/
def relAcksWrong : ChangeSpec := { name := "relAcks", fn := fun _ => fun
  | [d] => { results := [.lit (.bool false)], args := [d] }
  | _ => none }
def RelAcksWrongFalsely : Prop := relAcksRow.holds Try.pinned (OpenSpec.ofChange relAcksWrong)

/-- 'guidepostlaw11.RelWhole': WHATEVER THE INPUT: true; the input reads as it did. -/
def relWholeSpec : ChangeSpec := { name := "relWhole", fn := fun _ => fun
  | [d] => { results := [.lit (.bool true)], args := [d] }
  | _ => none }
def relWholeRow : OpenClaim := { program := "ytmkjnblmgofoeaa", sum := "81d6901315154114a00f3fcc290d46abf4e4cdceef6910a8b82972a3bc3d65cb", func := "guidepost/guidepostlaw11.RelWhole", spec := "relWhole", unfollowed := true, recurses := true, apart := false }
def RelWholeSaid : Prop := relWholeRow.holds Try.pinned (OpenSpec.ofChange relWholeSpec)

/-- ITS FALSE NEIGHBOUR: 'it returns false'. Refute it at one input. -/
def relWholeWrong : ChangeSpec := { name := "relWhole", fn := fun _ => fun
  | [d] => { results := [.lit (.bool false)], args := [d] }
  | _ => none }
def RelWholeWrongFalsely : Prop := relWholeRow.holds Try.pinned (OpenSpec.ofChange relWholeWrong)

/-- 'guidepostlaw11.RelWindow': WHATEVER THE INPUT: true; the input reads as it did. -/
def relWindowSpec : ChangeSpec := { name := "relWindow", fn := fun _ => fun
  | [d] => { results := [.lit (.bool true)], args := [d] }
  | _ => none }
def relWindowRow : OpenClaim := { program := "ytmkjnblmgofoeaa", sum := "81d6901315154114a00f3fcc290d46abf4e4cdceef6910a8b82972a3bc3d65cb", func := "guidepost/guidepostlaw11.RelWindow", spec := "relWindow", unfollowed := true, recurses := true, apart := false }
def RelWindowSaid : Prop := relWindowRow.holds Try.pinned (OpenSpec.ofChange relWindowSpec)

/-- ITS FALSE NEIGHBOUR: 'it returns false'. Refute it at one input. -/
def relWindowWrong : ChangeSpec := { name := "relWindow", fn := fun _ => fun
  | [d] => { results := [.lit (.bool false)], args := [d] }
  | _ => none }
def RelWindowWrongFalsely : Prop := relWindowRow.holds Try.pinned (OpenSpec.ofChange relWindowWrong)

/-- 'guidepostlaw11.RelPlays': WHATEVER THE INPUT: true; the input reads as it did. -/
def relPlaysSpec : ChangeSpec := { name := "relPlays", fn := fun _ => fun
  | [d1, d2] => { results := [.lit (.bool true)], args := [d1, d2] }
  | _ => none }
def relPlaysRow : OpenClaim := { program := "ytmkjnblmgofoeaa", sum := "81d6901315154114a00f3fcc290d46abf4e4cdceef6910a8b82972a3bc3d65cb", func := "guidepost/guidepostlaw11.RelPlays", spec := "relPlays", unfollowed := true, recurses := true, apart := false }
def RelPlaysSaid : Prop := relPlaysRow.holds Try.pinned (OpenSpec.ofChange relPlaysSpec)

/-- ITS FALSE NEIGHBOUR: 'it returns false'. Refute it at one input. -/
def relPlaysWrong : ChangeSpec := { name := "relPlays", fn := fun _ => fun
  | [d1, d2] => { results := [.lit (.bool false)], args := [d1, d2] }
  | _ => none }
def RelPlaysWrongFalsely : Prop := relPlaysRow.holds Try.pinned (OpenSpec.ofChange relPlaysWrong)

/-- 'guidepostlaw11.RelNil': WHATEVER THE INPUT: true; the input reads as it did. -/
def relNilSpec : ChangeSpec := { name := "relNil", fn := fun _ => fun
  | [] => { results := [.lit (.bool true)], args := [] }
  | _ => none }
def relNilRow : OpenClaim := { program := "ytmkjnblmgofoeaa", sum := "81d6901315154114a00f3fcc290d46abf4e4cdceef6910a8b82972a3bc3d65cb", func := "guidepost/guidepostlaw11.RelNil", spec := "relNil", unfollowed := true, recurses := true, apart := false }
def RelNilSaid : Prop := relNilRow.holds Try.pinned (OpenSpec.ofChange relNilSpec)

/-- ITS FALSE NEIGHBOUR: 'it returns false'. Refute it at one input. -/
def relNilWrong : ChangeSpec := { name := "relNil", fn := fun _ => fun
  | [] => { results := [.lit (.bool false)], args := [] }
  | _ => none }
def RelNilWrongFalsely : Prop := relNilRow.holds Try.pinned (OpenSpec.ofChange relNilWrong)

/- THE SECOND FORM. 'bulk': how many values and letters a reading holds, each counted each time it is reached (what is shared counts as often as it is met; a slice's spare places count too). A statement '..UptoSaid' is the law's where the arguments, and the package variables that the reading takes, are together of bulk at most 1048576: NARROWER than '..Said'. Prove '..Said' where nothing that the law and all that it calls make is longer than what came in: it says more and counts as full. Else prove '..UptoSaid'. A law counts once. -/
mutual
def uptoBulk {H : Type} : DataW H → Nat
  | .lit (.string bytes) => bytes.length + 1
  | .lit _ => 1
  | .nil => 1
  | .ptr d => uptoBulk d + 1
  | .slice elems spare => uptoBulkAll elems + uptoBulkAll spare + 1
  | .agg parts => uptoBulkAll parts + 1
  | .iface _ d => uptoBulk d + 1
  | .map entries => uptoBulkEntries entries + 1
  | .held _ => 1
def uptoBulkAll {H : Type} : List (DataW H) → Nat
  | [] => 0
  | d :: r => uptoBulk d + uptoBulkAll r
def uptoBulkEntries {H : Type} : List (Lit × DataW H) → Nat
  | [] => 0
  | x :: r => uptoBulkEntry x + uptoBulkEntries r
def uptoBulkEntry {H : Type} : Lit × DataW H → Nat
  | (.string bytes, d) => bytes.length + uptoBulk d + 1
  | (_, d) => uptoBulk d + 1
 end
def uptoSmall : (H : Type) → List (DataW H) → Bool := fun _ ds => decide (uptoBulkAll ds ≤ 1048576)
def OpenSpec.upto (s : _root_.Go.ChangeSpec) : _root_.Go.OpenSpec := { _root_.Go.OpenSpec.ofChange s with cond := some uptoSmall }

/-- 'guidepostlaw11.RelAcks', WHERE WHAT IT READS IS OF BULK AT MOST 1048576: true; the input reads as it did. -/
def relAcksUptoRow : OpenClaim := { program := "ytmkjnblmgofoeaa", sum := "81d6901315154114a00f3fcc290d46abf4e4cdceef6910a8b82972a3bc3d65cb", func := "guidepost/guidepostlaw11.RelAcks", spec := "relAcks", unfollowed := true, recurses := true, apart := false, narrowed := true }
def RelAcksUptoSaid : Prop := relAcksUptoRow.holds Try.pinned (OpenSpec.upto relAcksSpec)

/-- 'guidepostlaw11.RelWhole', WHERE WHAT IT READS IS OF BULK AT MOST 1048576: true; the input reads as it did. -/
def relWholeUptoRow : OpenClaim := { program := "ytmkjnblmgofoeaa", sum := "81d6901315154114a00f3fcc290d46abf4e4cdceef6910a8b82972a3bc3d65cb", func := "guidepost/guidepostlaw11.RelWhole", spec := "relWhole", unfollowed := true, recurses := true, apart := false, narrowed := true }
def RelWholeUptoSaid : Prop := relWholeUptoRow.holds Try.pinned (OpenSpec.upto relWholeSpec)

/-- 'guidepostlaw11.RelWindow', WHERE WHAT IT READS IS OF BULK AT MOST 1048576: true; the input reads as it did. -/
def relWindowUptoRow : OpenClaim := { program := "ytmkjnblmgofoeaa", sum := "81d6901315154114a00f3fcc290d46abf4e4cdceef6910a8b82972a3bc3d65cb", func := "guidepost/guidepostlaw11.RelWindow", spec := "relWindow", unfollowed := true, recurses := true, apart := false, narrowed := true }
def RelWindowUptoSaid : Prop := relWindowUptoRow.holds Try.pinned (OpenSpec.upto relWindowSpec)

/-- 'guidepostlaw11.RelPlays', WHERE WHAT IT READS IS OF BULK AT MOST 1048576: true; the input reads as it did. -/
def relPlaysUptoRow : OpenClaim := { program := "ytmkjnblmgofoeaa", sum := "81d6901315154114a00f3fcc290d46abf4e4cdceef6910a8b82972a3bc3d65cb", func := "guidepost/guidepostlaw11.RelPlays", spec := "relPlays", unfollowed := true, recurses := true, apart := false, narrowed := true }
def RelPlaysUptoSaid : Prop := relPlaysUptoRow.holds Try.pinned (OpenSpec.upto relPlaysSpec)

/-- 'guidepostlaw11.RelNil', WHERE WHAT IT READS IS OF BULK AT MOST 1048576: true; the input reads as it did. -/
def relNilUptoRow : OpenClaim := { program := "ytmkjnblmgofoeaa", sum := "81d6901315154114a00f3fcc290d46abf4e4cdceef6910a8b82972a3bc3d65cb", func := "guidepost/guidepostlaw11.RelNil", spec := "relNil", unfollowed := true, recurses := true, apart := false, narrowed := true }
def RelNilUptoSaid : Prop := relNilUptoRow.holds Try.pinned (OpenSpec.upto relNilSpec)

end Rows
end Go.Proofs.Ytmkjnblmgofoeaa
