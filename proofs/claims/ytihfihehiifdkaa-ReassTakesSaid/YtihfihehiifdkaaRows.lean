/-
  No cell of these rows narrows 'for every input' (looked for: loops, veiled, ifaces, maps, wideKeys, modest, calm, conditions, laid).
  DERIVED. THE GIVEN ROWS OF THIS SEAT. 10 by the template 'for every input the law returns true; each argument reads behind the call as it read before'; 0 by the template 'total and deterministic' (their statements: YtihfihehiifdkaaTotals.lean).
  GIVEN WITH THE SEED: the statements are not yours to turn. If you find one false, say at which input.
  Laid BY PROGRAM, IN A SANDBOX (cutbox-rows.mjs): the forced cells as the released guide's own fill.sh prints them over the translation 264ff1ec0c618e97… (all of the seat's roots in one cut). By AI agents, Wed Nov 11 2026. No macro, syntax, notation, axiom, sorry.
-/
import Derived.Test.YtihfihehiifdkaaChecked
import GoSem.Claim
import GoSem.ClaimJoined
import GoSem.ClaimMapViews
import Derived.JoinedTies
import Derived.KernelRfl
namespace Go.Proofs.Ytihfihehiifdkaa
/- THE CELL 'sum', in the pinned program and in every row, IS THE sha256 OF THE DUMP (.gsa) THAT YtihfihehiifdkaaProg.lean LOADS. Nothing in Lean hashes anything: it is a label: what it is worth is what the hold of that sum in a sandbox is worth. -/
noncomputable def Try.pinned : Pinned := { name := "ytihfihehiifdkaa", sum := "264ff1ec0c618e977287cf1042c9b3a8c38156e9ba2a0999fba63ed39574e172", checked := Try.checked }
namespace Rows
def none {H : Type} : Left H := { results := [], args := [] }

/-- 'guidepostlaw04.IcmpQuotes': WHATEVER THE INPUT: true; the input reads as it did. -/
def icmpQuotesSpec : ChangeSpec := { name := "icmpQuotes", fn := fun _ => fun
  | [d1, d2, d3, d4] => { results := [.lit (.bool true)], args := [d1, d2, d3, d4] }
  | _ => none }
def icmpQuotesRow : OpenClaim := { program := "ytihfihehiifdkaa", sum := "264ff1ec0c618e977287cf1042c9b3a8c38156e9ba2a0999fba63ed39574e172", func := "guidepost/guidepostlaw04.IcmpQuotes", spec := "icmpQuotes", unfollowed := true, recurses := true, plainKeys := false, apart := false }
def IcmpQuotesSaid : Prop := icmpQuotesRow.holds Try.pinned (OpenSpec.ofChange icmpQuotesSpec)

/-- ITS FALSE NEIGHBOUR: 'it returns false'. Refute it at one input. -/
def icmpQuotesWrong : ChangeSpec := { name := "icmpQuotes", fn := fun _ => fun
  | [d1, d2, d3, d4] => { results := [.lit (.bool false)], args := [d1, d2, d3, d4] }
  | _ => none }
def IcmpQuotesWrongFalsely : Prop := icmpQuotesRow.holds Try.pinned (OpenSpec.ofChange icmpQuotesWrong)

/-- 'guidepostlaw04.IcmpErrors': WHATEVER THE INPUT: true; the input reads as it did. -/
def icmpErrorsSpec : ChangeSpec := { name := "icmpErrors", fn := fun _ => fun
  | [d1, d2, d3, d4] => { results := [.lit (.bool true)], args := [d1, d2, d3, d4] }
  | _ => none }
def icmpErrorsRow : OpenClaim := { program := "ytihfihehiifdkaa", sum := "264ff1ec0c618e977287cf1042c9b3a8c38156e9ba2a0999fba63ed39574e172", func := "guidepost/guidepostlaw04.IcmpErrors", spec := "icmpErrors", unfollowed := true, recurses := true, plainKeys := false, apart := false }
def IcmpErrorsSaid : Prop := icmpErrorsRow.holds Try.pinned (OpenSpec.ofChange icmpErrorsSpec)

/-- ITS FALSE NEIGHBOUR: 'it returns false'. Refute it at one input. -/
def icmpErrorsWrong : ChangeSpec := { name := "icmpErrors", fn := fun _ => fun
  | [d1, d2, d3, d4] => { results := [.lit (.bool false)], args := [d1, d2, d3, d4] }
  | _ => none }
def IcmpErrorsWrongFalsely : Prop := icmpErrorsRow.holds Try.pinned (OpenSpec.ofChange icmpErrorsWrong)

/-- 'guidepostlaw04.IcmpBytes': WHATEVER THE INPUT: true; the input reads as it did. -/
def icmpBytesSpec : ChangeSpec := { name := "icmpBytes", fn := fun _ => fun
  | [d1, d2, d3] => { results := [.lit (.bool true)], args := [d1, d2, d3] }
  | _ => none }
def icmpBytesRow : OpenClaim := { program := "ytihfihehiifdkaa", sum := "264ff1ec0c618e977287cf1042c9b3a8c38156e9ba2a0999fba63ed39574e172", func := "guidepost/guidepostlaw04.IcmpBytes", spec := "icmpBytes", unfollowed := true, recurses := true, plainKeys := false, apart := false }
def IcmpBytesSaid : Prop := icmpBytesRow.holds Try.pinned (OpenSpec.ofChange icmpBytesSpec)

/-- ITS FALSE NEIGHBOUR: 'it returns false'. Refute it at one input. -/
def icmpBytesWrong : ChangeSpec := { name := "icmpBytes", fn := fun _ => fun
  | [d1, d2, d3] => { results := [.lit (.bool false)], args := [d1, d2, d3] }
  | _ => none }
def IcmpBytesWrongFalsely : Prop := icmpBytesRow.holds Try.pinned (OpenSpec.ofChange icmpBytesWrong)

/-- 'guidepostlaw04.IcmpEchoes': WHATEVER THE INPUT: true; the input reads as it did. -/
def icmpEchoesSpec : ChangeSpec := { name := "icmpEchoes", fn := fun _ => fun
  | [d] => { results := [.lit (.bool true)], args := [d] }
  | _ => none }
def icmpEchoesRow : OpenClaim := { program := "ytihfihehiifdkaa", sum := "264ff1ec0c618e977287cf1042c9b3a8c38156e9ba2a0999fba63ed39574e172", func := "guidepost/guidepostlaw04.IcmpEchoes", spec := "icmpEchoes", unfollowed := true, recurses := true, plainKeys := false, apart := false }
def IcmpEchoesSaid : Prop := icmpEchoesRow.holds Try.pinned (OpenSpec.ofChange icmpEchoesSpec)

/-- ITS FALSE NEIGHBOUR: 'it returns false'. Refute it at one input. -/
def icmpEchoesWrong : ChangeSpec := { name := "icmpEchoes", fn := fun _ => fun
  | [d] => { results := [.lit (.bool false)], args := [d] }
  | _ => none }
def IcmpEchoesWrongFalsely : Prop := icmpEchoesRow.holds Try.pinned (OpenSpec.ofChange icmpEchoesWrong)

/-- 'guidepostlaw04.IcmpMeans': WHATEVER THE INPUT: true; the input reads as it did. -/
def icmpMeansSpec : ChangeSpec := { name := "icmpMeans", fn := fun _ => fun
  | [d1, d2, d3, d4, d5] => { results := [.lit (.bool true)], args := [d1, d2, d3, d4, d5] }
  | _ => none }
def icmpMeansRow : OpenClaim := { program := "ytihfihehiifdkaa", sum := "264ff1ec0c618e977287cf1042c9b3a8c38156e9ba2a0999fba63ed39574e172", func := "guidepost/guidepostlaw04.IcmpMeans", spec := "icmpMeans", unfollowed := true, recurses := true, plainKeys := false, apart := false }
def IcmpMeansSaid : Prop := icmpMeansRow.holds Try.pinned (OpenSpec.ofChange icmpMeansSpec)

/-- ITS FALSE NEIGHBOUR: 'it returns false'. Refute it at one input. -/
def icmpMeansWrong : ChangeSpec := { name := "icmpMeans", fn := fun _ => fun
  | [d1, d2, d3, d4, d5] => { results := [.lit (.bool false)], args := [d1, d2, d3, d4, d5] }
  | _ => none }
def IcmpMeansWrongFalsely : Prop := icmpMeansRow.holds Try.pinned (OpenSpec.ofChange icmpMeansWrong)

/-- 'guidepostlaw16.ReassMeans': WHATEVER THE INPUT: true; the input reads as it did. -/
def reassMeansSpec : ChangeSpec := { name := "reassMeans", fn := fun _ => fun
  | [d1, d2, d3, d4] => { results := [.lit (.bool true)], args := [d1, d2, d3, d4] }
  | _ => none }
def reassMeansRow : OpenClaim := { program := "ytihfihehiifdkaa", sum := "264ff1ec0c618e977287cf1042c9b3a8c38156e9ba2a0999fba63ed39574e172", func := "guidepost/guidepostlaw16.ReassMeans", spec := "reassMeans", unfollowed := true, recurses := true, plainKeys := false, apart := false }
def ReassMeansSaid : Prop := reassMeansRow.holds Try.pinned (OpenSpec.ofChange reassMeansSpec)

/-- ITS FALSE NEIGHBOUR: 'it returns false'. Refute it at one input. -/
def reassMeansWrong : ChangeSpec := { name := "reassMeans", fn := fun _ => fun
  | [d1, d2, d3, d4] => { results := [.lit (.bool false)], args := [d1, d2, d3, d4] }
  | _ => none }
def ReassMeansWrongFalsely : Prop := reassMeansRow.holds Try.pinned (OpenSpec.ofChange reassMeansWrong)

/-- 'guidepostlaw16.ReassKeys': WHATEVER THE INPUT: true; the input reads as it did. -/
def reassKeysSpec : ChangeSpec := { name := "reassKeys", fn := fun _ => fun
  | [d1, d2, d3] => { results := [.lit (.bool true)], args := [d1, d2, d3] }
  | _ => none }
def reassKeysRow : OpenClaim := { program := "ytihfihehiifdkaa", sum := "264ff1ec0c618e977287cf1042c9b3a8c38156e9ba2a0999fba63ed39574e172", func := "guidepost/guidepostlaw16.ReassKeys", spec := "reassKeys", unfollowed := true, recurses := true, plainKeys := false, apart := false }
def ReassKeysSaid : Prop := reassKeysRow.holds Try.pinned (OpenSpec.ofChange reassKeysSpec)

/-- ITS FALSE NEIGHBOUR: 'it returns false'. Refute it at one input. -/
def reassKeysWrong : ChangeSpec := { name := "reassKeys", fn := fun _ => fun
  | [d1, d2, d3] => { results := [.lit (.bool false)], args := [d1, d2, d3] }
  | _ => none }
def ReassKeysWrongFalsely : Prop := reassKeysRow.holds Try.pinned (OpenSpec.ofChange reassKeysWrong)

/-- 'guidepostlaw16.ReassMissing': WHATEVER THE INPUT: true; the input reads as it did. -/
def reassMissingSpec : ChangeSpec := { name := "reassMissing", fn := fun _ => fun
  | [d1, d2, d3, d4] => { results := [.lit (.bool true)], args := [d1, d2, d3, d4] }
  | _ => none }
def reassMissingRow : OpenClaim := { program := "ytihfihehiifdkaa", sum := "264ff1ec0c618e977287cf1042c9b3a8c38156e9ba2a0999fba63ed39574e172", func := "guidepost/guidepostlaw16.ReassMissing", spec := "reassMissing", unfollowed := true, recurses := true, plainKeys := false, apart := false }
def ReassMissingSaid : Prop := reassMissingRow.holds Try.pinned (OpenSpec.ofChange reassMissingSpec)

/-- ITS FALSE NEIGHBOUR: 'it returns false'. Refute it at one input. -/
def reassMissingWrong : ChangeSpec := { name := "reassMissing", fn := fun _ => fun
  | [d1, d2, d3, d4] => { results := [.lit (.bool false)], args := [d1, d2, d3, d4] }
  | _ => none }
def ReassMissingWrongFalsely : Prop := reassMissingRow.holds Try.pinned (OpenSpec.ofChange reassMissingWrong)

/-- 'guidepostlaw16.ReassTakes': WHATEVER THE INPUT: true; the input reads as it did. -/
def reassTakesSpec : ChangeSpec := { name := "reassTakes", fn := fun _ => fun
  | [d1, d2] => { results := [.lit (.bool true)], args := [d1, d2] }
  | _ => none }
def reassTakesRow : OpenClaim := { program := "ytihfihehiifdkaa", sum := "264ff1ec0c618e977287cf1042c9b3a8c38156e9ba2a0999fba63ed39574e172", func := "guidepost/guidepostlaw16.ReassTakes", spec := "reassTakes", inPlace := ["maps.clone"], unfollowed := true, recurses := true, plainKeys := false, apart := false }
def ReassTakesSaid : Prop := reassTakesRow.holds Try.pinned (OpenSpec.ofChange reassTakesSpec)

/-- ITS FALSE NEIGHBOUR: 'it returns false'. Refute it at one input. -/
def reassTakesWrong : ChangeSpec := { name := "reassTakes", fn := fun _ => fun
  | [d1, d2] => { results := [.lit (.bool false)], args := [d1, d2] }
  | _ => none }
def ReassTakesWrongFalsely : Prop := reassTakesRow.holds Try.pinned (OpenSpec.ofChange reassTakesWrong)

/-- 'guidepostlaw16.ReassNil': WHATEVER THE INPUT: true; the input reads as it did. -/
def reassNilSpec : ChangeSpec := { name := "reassNil", fn := fun _ => fun
  | [] => { results := [.lit (.bool true)], args := [] }
  | _ => none }
def reassNilRow : OpenClaim := { program := "ytihfihehiifdkaa", sum := "264ff1ec0c618e977287cf1042c9b3a8c38156e9ba2a0999fba63ed39574e172", func := "guidepost/guidepostlaw16.ReassNil", spec := "reassNil", inPlace := ["maps.clone"], unfollowed := true, recurses := true, plainKeys := false, apart := false }
def ReassNilSaid : Prop := reassNilRow.holds Try.pinned (OpenSpec.ofChange reassNilSpec)

/-- ITS FALSE NEIGHBOUR: 'it returns false'. Refute it at one input. -/
def reassNilWrong : ChangeSpec := { name := "reassNil", fn := fun _ => fun
  | [] => { results := [.lit (.bool false)], args := [] }
  | _ => none }
def ReassNilWrongFalsely : Prop := reassNilRow.holds Try.pinned (OpenSpec.ofChange reassNilWrong)

/- THE SECOND FORM. 'bulk': how many values and letters a reading holds, each counted each time it is reached (what is shared counts as often as it is met; a slice's spare places count too). A statement '..UptoSaid' is the law's where the arguments, and the package variables that the reading takes, are together of bulk at most 1048576: NARROWER than '..Said'. Prove '..Said' where nothing that the law and all that it calls make is longer than what came in: it says more and counts as full. Else prove '..UptoSaid'. A law counts once. -/
mutual
def uptoBulk {H : Type} : DataW H → Nat
  | .lit (.string bytes) => bytes.length + 1
  | .lit _ => 1
  | .nil => 1
  | .ptr d => uptoBulk d + 1
  | .slice elems spare => uptoBulkAll elems + uptoBulkAll spare + 1
  | .agg parts => uptoBulkAll parts + 1
  | .iface _ d => uptoBulk d + 1
  | .map entries => uptoBulkEntries entries + 1
  | .held _ => 1
def uptoBulkAll {H : Type} : List (DataW H) → Nat
  | [] => 0
  | d :: r => uptoBulk d + uptoBulkAll r
def uptoBulkEntries {H : Type} : List (Lit × DataW H) → Nat
  | [] => 0
  | x :: r => uptoBulkEntry x + uptoBulkEntries r
def uptoBulkEntry {H : Type} : Lit × DataW H → Nat
  | (.string bytes, d) => bytes.length + uptoBulk d + 1
  | (_, d) => uptoBulk d + 1
 end
def uptoSmall : (H : Type) → List (DataW H) → Bool := fun _ ds => decide (uptoBulkAll ds ≤ 1048576)
def OpenSpec.upto (s : _root_.Go.ChangeSpec) : _root_.Go.OpenSpec := { _root_.Go.OpenSpec.ofChange s with cond := some uptoSmall }

/-- 'guidepostlaw04.IcmpQuotes', WHERE WHAT IT READS IS OF BULK AT MOST 1048576: true; the input reads as it did. -/
def icmpQuotesUptoRow : OpenClaim := { program := "ytihfihehiifdkaa", sum := "264ff1ec0c618e977287cf1042c9b3a8c38156e9ba2a0999fba63ed39574e172", func := "guidepost/guidepostlaw04.IcmpQuotes", spec := "icmpQuotes", unfollowed := true, recurses := true, plainKeys := false, apart := false, narrowed := true }
def IcmpQuotesUptoSaid : Prop := icmpQuotesUptoRow.holds Try.pinned (OpenSpec.upto icmpQuotesSpec)

/-- 'guidepostlaw04.IcmpErrors', WHERE WHAT IT READS IS OF BULK AT MOST 1048576: true; the input reads as it did. -/
def icmpErrorsUptoRow : OpenClaim := { program := "ytihfihehiifdkaa", sum := "264ff1ec0c618e977287cf1042c9b3a8c38156e9ba2a0999fba63ed39574e172", func := "guidepost/guidepostlaw04.IcmpErrors", spec := "icmpErrors", unfollowed := true, recurses := true, plainKeys := false, apart := false, narrowed := true }
def IcmpErrorsUptoSaid : Prop := icmpErrorsUptoRow.holds Try.pinned (OpenSpec.upto icmpErrorsSpec)

/-- 'guidepostlaw04.IcmpBytes', WHERE WHAT IT READS IS OF BULK AT MOST 1048576: true; the input reads as it did. -/
def icmpBytesUptoRow : OpenClaim := { program := "ytihfihehiifdkaa", sum := "264ff1ec0c618e977287cf1042c9b3a8c38156e9ba2a0999fba63ed39574e172", func := "guidepost/guidepostlaw04.IcmpBytes", spec := "icmpBytes", unfollowed := true, recurses := true, plainKeys := false, apart := false, narrowed := true }
def IcmpBytesUptoSaid : Prop := icmpBytesUptoRow.holds Try.pinned (OpenSpec.upto icmpBytesSpec)

/-- 'guidepostlaw04.IcmpEchoes', WHERE WHAT IT READS IS OF BULK AT MOST 1048576: true; the input reads as it did. -/
def icmpEchoesUptoRow : OpenClaim := { program := "ytihfihehiifdkaa", sum := "264ff1ec0c618e977287cf1042c9b3a8c38156e9ba2a0999fba63ed39574e172", func := "guidepost/guidepostlaw04.IcmpEchoes", spec := "icmpEchoes", unfollowed := true, recurses := true, plainKeys := false, apart := false, narrowed := true }
def IcmpEchoesUptoSaid : Prop := icmpEchoesUptoRow.holds Try.pinned (OpenSpec.upto icmpEchoesSpec)

/-- 'guidepostlaw04.IcmpMeans', WHERE WHAT IT READS IS OF BULK AT MOST 1048576: true; the input reads as it did. -/
def icmpMeansUptoRow : OpenClaim := { program := "ytihfihehiifdkaa", sum := "264ff1ec0c618e977287cf1042c9b3a8c38156e9ba2a0999fba63ed39574e172", func := "guidepost/guidepostlaw04.IcmpMeans", spec := "icmpMeans", unfollowed := true, recurses := true, plainKeys := false, apart := false, narrowed := true }
def IcmpMeansUptoSaid : Prop := icmpMeansUptoRow.holds Try.pinned (OpenSpec.upto icmpMeansSpec)

/-- 'guidepostlaw16.ReassMeans', WHERE WHAT IT READS IS OF BULK AT MOST 1048576: true; the input reads as it did. -/
def reassMeansUptoRow : OpenClaim := { program := "ytihfihehiifdkaa", sum := "264ff1ec0c618e977287cf1042c9b3a8c38156e9ba2a0999fba63ed39574e172", func := "guidepost/guidepostlaw16.ReassMeans", spec := "reassMeans", unfollowed := true, recurses := true, plainKeys := false, apart := false, narrowed := true }
def ReassMeansUptoSaid : Prop := reassMeansUptoRow.holds Try.pinned (OpenSpec.upto reassMeansSpec)

/-- 'guidepostlaw16.ReassKeys', WHERE WHAT IT READS IS OF BULK AT MOST 1048576: true; the input reads as it did. -/
def reassKeysUptoRow : OpenClaim := { program := "ytihfihehiifdkaa", sum := "264ff1ec0c618e977287cf1042c9b3a8c38156e9ba2a0999fba63ed39574e172", func := "guidepost/guidepostlaw16.ReassKeys", spec := "reassKeys", unfollowed := true, recurses := true, plainKeys := false, apart := false, narrowed := true }
def ReassKeysUptoSaid : Prop := reassKeysUptoRow.holds Try.pinned (OpenSpec.upto reassKeysSpec)

/-- 'guidepostlaw16.ReassMissing', WHERE WHAT IT READS IS OF BULK AT MOST 1048576: true; the input reads as it did. -/
def reassMissingUptoRow : OpenClaim := { program := "ytihfihehiifdkaa", sum := "264ff1ec0c618e977287cf1042c9b3a8c38156e9ba2a0999fba63ed39574e172", func := "guidepost/guidepostlaw16.ReassMissing", spec := "reassMissing", unfollowed := true, recurses := true, plainKeys := false, apart := false, narrowed := true }
def ReassMissingUptoSaid : Prop := reassMissingUptoRow.holds Try.pinned (OpenSpec.upto reassMissingSpec)

/-- 'guidepostlaw16.ReassTakes', WHERE WHAT IT READS IS OF BULK AT MOST 1048576: true; the input reads as it did. -/
def reassTakesUptoRow : OpenClaim := { program := "ytihfihehiifdkaa", sum := "264ff1ec0c618e977287cf1042c9b3a8c38156e9ba2a0999fba63ed39574e172", func := "guidepost/guidepostlaw16.ReassTakes", spec := "reassTakes", inPlace := ["maps.clone"], unfollowed := true, recurses := true, plainKeys := false, apart := false, narrowed := true }
def ReassTakesUptoSaid : Prop := reassTakesUptoRow.holds Try.pinned (OpenSpec.upto reassTakesSpec)

/-- 'guidepostlaw16.ReassNil', WHERE WHAT IT READS IS OF BULK AT MOST 1048576: true; the input reads as it did. -/
def reassNilUptoRow : OpenClaim := { program := "ytihfihehiifdkaa", sum := "264ff1ec0c618e977287cf1042c9b3a8c38156e9ba2a0999fba63ed39574e172", func := "guidepost/guidepostlaw16.ReassNil", spec := "reassNil", inPlace := ["maps.clone"], unfollowed := true, recurses := true, plainKeys := false, apart := false, narrowed := true }
def ReassNilUptoSaid : Prop := reassNilUptoRow.holds Try.pinned (OpenSpec.upto reassNilSpec)

end Rows
end Go.Proofs.Ytihfihehiifdkaa
