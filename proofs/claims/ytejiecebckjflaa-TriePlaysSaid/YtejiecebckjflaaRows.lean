/-
  No cell of these rows narrows 'for every input' (looked for: loops, veiled, ifaces, maps, wideKeys, modest, calm, conditions, laid).
  DERIVED. THE GIVEN ROWS OF THIS SEAT. 6 by the template 'for every input the law returns true; each argument reads behind the call as it read before'; 0 by the template 'total and deterministic' (their statements: YtejiecebckjflaaTotals.lean).
  GIVEN WITH THE SEED: the statements are not yours to turn. If you find one false, say at which input.
  Laid BY PROGRAM, IN A SANDBOX (cutbox-rows.mjs): the forced cells as the released guide's own fill.sh prints them over the translation 2cc1bd87177cd9a7… (all of the seat's roots in one cut). By AI agents, Wed Nov 11 2026. No macro, syntax, notation, axiom, sorry.
-/
import Derived.Test.YtejiecebckjflaaChecked
import GoSem.Claim
import GoSem.ClaimJoined
import GoSem.ClaimMapViews
import Derived.JoinedTies
import Derived.KernelRfl
namespace Go.Proofs.Ytejiecebckjflaa
/- THE CELL 'sum', in the pinned program and in every row, IS THE sha256 OF THE DUMP (.gsa) THAT YtejiecebckjflaaProg.lean LOADS. Nothing in Lean hashes anything: it is a label: what it is worth is what the hold of that sum in a sandbox is worth. -/
noncomputable def Try.pinned : Pinned := { name := "ytejiecebckjflaa", sum := "2cc1bd87177cd9a7d0ce698c8787921bed66ec3694569232a7e0910a0f8510c2", checked := Try.checked }
namespace Rows
def none {H : Type} : Left H := { results := [], args := [] }

/-- 'guidepostlaw09.TrieMeans': WHATEVER THE INPUT: true; the input reads as it did. -/
def trieMeansSpec : ChangeSpec := { name := "trieMeans", fn := fun _ => fun
  | [d1, d2] => { results := [.lit (.bool true)], args := [d1, d2] }
  | _ => none }
def trieMeansRow : OpenClaim := { program := "ytejiecebckjflaa", sum := "2cc1bd87177cd9a7d0ce698c8787921bed66ec3694569232a7e0910a0f8510c2", func := "guidepost/guidepostlaw09.TrieMeans", spec := "trieMeans", unfollowed := true, recurses := true, plainKeys := false, apart := false }
def TrieMeansSaid : Prop := trieMeansRow.holds Try.pinned (OpenSpec.ofChange trieMeansSpec)

/-- ITS FALSE NEIGHBOUR: 'it returns false'. Refute it at one input. -/
def trieMeansWrong : ChangeSpec := { name := "trieMeans", fn := fun _ => fun
  | [d1, d2] => { results := [.lit (.bool false)], args := [d1, d2] }
  | _ => none }
def TrieMeansWrongFalsely : Prop := trieMeansRow.holds Try.pinned (OpenSpec.ofChange trieMeansWrong)

/-- 'guidepostlaw09.TrieHolds': WHATEVER THE INPUT: true; the input reads as it did. -/
def trieHoldsSpec : ChangeSpec := { name := "trieHolds", fn := fun _ => fun
  | [d1, d2, d3] => { results := [.lit (.bool true)], args := [d1, d2, d3] }
  | _ => none }
def trieHoldsRow : OpenClaim := { program := "ytejiecebckjflaa", sum := "2cc1bd87177cd9a7d0ce698c8787921bed66ec3694569232a7e0910a0f8510c2", func := "guidepost/guidepostlaw09.TrieHolds", spec := "trieHolds", unfollowed := true, recurses := true, plainKeys := false, apart := false }
def TrieHoldsSaid : Prop := trieHoldsRow.holds Try.pinned (OpenSpec.ofChange trieHoldsSpec)

/-- ITS FALSE NEIGHBOUR: 'it returns false'. Refute it at one input. -/
def trieHoldsWrong : ChangeSpec := { name := "trieHolds", fn := fun _ => fun
  | [d1, d2, d3] => { results := [.lit (.bool false)], args := [d1, d2, d3] }
  | _ => none }
def TrieHoldsWrongFalsely : Prop := trieHoldsRow.holds Try.pinned (OpenSpec.ofChange trieHoldsWrong)

/-- 'guidepostlaw09.TrieOrder': WHATEVER THE INPUT: true; the input reads as it did. -/
def trieOrderSpec : ChangeSpec := { name := "trieOrder", fn := fun _ => fun
  | [d1, d2] => { results := [.lit (.bool true)], args := [d1, d2] }
  | _ => none }
def trieOrderRow : OpenClaim := { program := "ytejiecebckjflaa", sum := "2cc1bd87177cd9a7d0ce698c8787921bed66ec3694569232a7e0910a0f8510c2", func := "guidepost/guidepostlaw09.TrieOrder", spec := "trieOrder", unfollowed := true, recurses := true, plainKeys := false, apart := false }
def TrieOrderSaid : Prop := trieOrderRow.holds Try.pinned (OpenSpec.ofChange trieOrderSpec)

/-- ITS FALSE NEIGHBOUR: 'it returns false'. Refute it at one input. -/
def trieOrderWrong : ChangeSpec := { name := "trieOrder", fn := fun _ => fun
  | [d1, d2] => { results := [.lit (.bool false)], args := [d1, d2] }
  | _ => none }
def TrieOrderWrongFalsely : Prop := trieOrderRow.holds Try.pinned (OpenSpec.ofChange trieOrderWrong)

/-- 'guidepostlaw09.TrieGone': WHATEVER THE INPUT: true; the input reads as it did. -/
def trieGoneSpec : ChangeSpec := { name := "trieGone", fn := fun _ => fun
  | [d1, d2] => { results := [.lit (.bool true)], args := [d1, d2] }
  | _ => none }
def trieGoneRow : OpenClaim := { program := "ytejiecebckjflaa", sum := "2cc1bd87177cd9a7d0ce698c8787921bed66ec3694569232a7e0910a0f8510c2", func := "guidepost/guidepostlaw09.TrieGone", spec := "trieGone", unfollowed := true, recurses := true, plainKeys := false, apart := false }
def TrieGoneSaid : Prop := trieGoneRow.holds Try.pinned (OpenSpec.ofChange trieGoneSpec)

/-- ITS FALSE NEIGHBOUR: 'it returns false'. Refute it at one input. -/
def trieGoneWrong : ChangeSpec := { name := "trieGone", fn := fun _ => fun
  | [d1, d2] => { results := [.lit (.bool false)], args := [d1, d2] }
  | _ => none }
def TrieGoneWrongFalsely : Prop := trieGoneRow.holds Try.pinned (OpenSpec.ofChange trieGoneWrong)

/-- 'guidepostlaw09.TriePlays': WHATEVER THE INPUT: true; the input reads as it did. -/
def triePlaysSpec : ChangeSpec := { name := "triePlays", fn := fun _ => fun
  | [d1, d2, d3, d4] => { results := [.lit (.bool true)], args := [d1, d2, d3, d4] }
  | _ => none }
def triePlaysRow : OpenClaim := { program := "ytejiecebckjflaa", sum := "2cc1bd87177cd9a7d0ce698c8787921bed66ec3694569232a7e0910a0f8510c2", func := "guidepost/guidepostlaw09.TriePlays", spec := "triePlays", unfollowed := true, recurses := true, plainKeys := false, apart := false }
def TriePlaysSaid : Prop := triePlaysRow.holds Try.pinned (OpenSpec.ofChange triePlaysSpec)

/-- ITS FALSE NEIGHBOUR: 'it returns false'. Refute it at one input. -/
def triePlaysWrong : ChangeSpec := { name := "triePlays", fn := fun _ => fun
  | [d1, d2, d3, d4] => { results := [.lit (.bool false)], args := [d1, d2, d3, d4] }
  | _ => none }
def TriePlaysWrongFalsely : Prop := triePlaysRow.holds Try.pinned (OpenSpec.ofChange triePlaysWrong)

/-- 'guidepostlaw09.TrieNil': WHATEVER THE INPUT: true; the input reads as it did. -/
def trieNilSpec : ChangeSpec := { name := "trieNil", fn := fun _ => fun
  | [] => { results := [.lit (.bool true)], args := [] }
  | _ => none }
def trieNilRow : OpenClaim := { program := "ytejiecebckjflaa", sum := "2cc1bd87177cd9a7d0ce698c8787921bed66ec3694569232a7e0910a0f8510c2", func := "guidepost/guidepostlaw09.TrieNil", spec := "trieNil", unfollowed := true, recurses := true, plainKeys := false, apart := false }
def TrieNilSaid : Prop := trieNilRow.holds Try.pinned (OpenSpec.ofChange trieNilSpec)

/-- ITS FALSE NEIGHBOUR: 'it returns false'. Refute it at one input. -/
def trieNilWrong : ChangeSpec := { name := "trieNil", fn := fun _ => fun
  | [] => { results := [.lit (.bool false)], args := [] }
  | _ => none }
def TrieNilWrongFalsely : Prop := trieNilRow.holds Try.pinned (OpenSpec.ofChange trieNilWrong)

/- THE SECOND FORM. 'bulk': how many values and letters a reading holds, each counted each time it is reached (what is shared counts as often as it is met; a slice's spare places count too). A statement '..UptoSaid' is the law's where the arguments, and the package variables that the reading takes, are together of bulk at most 1048576: NARROWER than '..Said'. Prove '..Said' where nothing that the law and all that it calls make is longer than what came in: it says more and counts as full. Else prove '..UptoSaid'. A law counts once. -/
mutual
def uptoBulk {H : Type} : DataW H → Nat
  | .lit (.string bytes) => bytes.length + 1
  | .lit _ => 1
  | .nil => 1
  | .ptr d => uptoBulk d + 1
  | .slice elems spare => uptoBulkAll elems + uptoBulkAll spare + 1
  | .agg parts => uptoBulkAll parts + 1
  | .iface _ d => uptoBulk d + 1
  | .map entries => uptoBulkEntries entries + 1
  | .held _ => 1
def uptoBulkAll {H : Type} : List (DataW H) → Nat
  | [] => 0
  | d :: r => uptoBulk d + uptoBulkAll r
def uptoBulkEntries {H : Type} : List (Lit × DataW H) → Nat
  | [] => 0
  | x :: r => uptoBulkEntry x + uptoBulkEntries r
def uptoBulkEntry {H : Type} : Lit × DataW H → Nat
  | (.string bytes, d) => bytes.length + uptoBulk d + 1
  | (_, d) => uptoBulk d + 1
 end
def uptoSmall : (H : Type) → List (DataW H) → Bool := fun _ ds => decide (uptoBulkAll ds ≤ 1048576)
def OpenSpec.upto (s : _root_.Go.ChangeSpec) : _root_.Go.OpenSpec := { _root_.Go.OpenSpec.ofChange s with cond := some uptoSmall }

/-- 'guidepostlaw09.TrieMeans', WHERE WHAT IT READS IS OF BULK AT MOST 1048576: true; the input reads as it did. -/
def trieMeansUptoRow : OpenClaim := { program := "ytejiecebckjflaa", sum := "2cc1bd87177cd9a7d0ce698c8787921bed66ec3694569232a7e0910a0f8510c2", func := "guidepost/guidepostlaw09.TrieMeans", spec := "trieMeans", unfollowed := true, recurses := true, plainKeys := false, apart := false, narrowed := true }
def TrieMeansUptoSaid : Prop := trieMeansUptoRow.holds Try.pinned (OpenSpec.upto trieMeansSpec)

/-- 'guidepostlaw09.TrieHolds', WHERE WHAT IT READS IS OF BULK AT MOST 1048576: true; the input reads as it did. -/
def trieHoldsUptoRow : OpenClaim := { program := "ytejiecebckjflaa", sum := "2cc1bd87177cd9a7d0ce698c8787921bed66ec3694569232a7e0910a0f8510c2", func := "guidepost/guidepostlaw09.TrieHolds", spec := "trieHolds", unfollowed := true, recurses := true, plainKeys := false, apart := false, narrowed := true }
def TrieHoldsUptoSaid : Prop := trieHoldsUptoRow.holds Try.pinned (OpenSpec.upto trieHoldsSpec)

/-- 'guidepostlaw09.TrieOrder', WHERE WHAT IT READS IS OF BULK AT MOST 1048576: true; the input reads as it did. -/
def trieOrderUptoRow : OpenClaim := { program := "ytejiecebckjflaa", sum := "2cc1bd87177cd9a7d0ce698c8787921bed66ec3694569232a7e0910a0f8510c2", func := "guidepost/guidepostlaw09.TrieOrder", spec := "trieOrder", unfollowed := true, recurses := true, plainKeys := false, apart := false, narrowed := true }
def TrieOrderUptoSaid : Prop := trieOrderUptoRow.holds Try.pinned (OpenSpec.upto trieOrderSpec)

/-- 'guidepostlaw09.TrieGone', WHERE WHAT IT READS IS OF BULK AT MOST 1048576: true; the input reads as it did. -/
def trieGoneUptoRow : OpenClaim := { program := "ytejiecebckjflaa", sum := "2cc1bd87177cd9a7d0ce698c8787921bed66ec3694569232a7e0910a0f8510c2", func := "guidepost/guidepostlaw09.TrieGone", spec := "trieGone", unfollowed := true, recurses := true, plainKeys := false, apart := false, narrowed := true }
def TrieGoneUptoSaid : Prop := trieGoneUptoRow.holds Try.pinned (OpenSpec.upto trieGoneSpec)

/-- 'guidepostlaw09.TriePlays', WHERE WHAT IT READS IS OF BULK AT MOST 1048576: true; the input reads as it did. -/
def triePlaysUptoRow : OpenClaim := { program := "ytejiecebckjflaa", sum := "2cc1bd87177cd9a7d0ce698c8787921bed66ec3694569232a7e0910a0f8510c2", func := "guidepost/guidepostlaw09.TriePlays", spec := "triePlays", unfollowed := true, recurses := true, plainKeys := false, apart := false, narrowed := true }
def TriePlaysUptoSaid : Prop := triePlaysUptoRow.holds Try.pinned (OpenSpec.upto triePlaysSpec)

/-- 'guidepostlaw09.TrieNil', WHERE WHAT IT READS IS OF BULK AT MOST 1048576: true; the input reads as it did. -/
def trieNilUptoRow : OpenClaim := { program := "ytejiecebckjflaa", sum := "2cc1bd87177cd9a7d0ce698c8787921bed66ec3694569232a7e0910a0f8510c2", func := "guidepost/guidepostlaw09.TrieNil", spec := "trieNil", unfollowed := true, recurses := true, plainKeys := false, apart := false, narrowed := true }
def TrieNilUptoSaid : Prop := trieNilUptoRow.holds Try.pinned (OpenSpec.upto trieNilSpec)

end Rows
end Go.Proofs.Ytejiecebckjflaa
