/-
  No cell of these rows narrows 'for every input' (looked for: loops, veiled, ifaces, maps, wideKeys, modest, calm, conditions, laid).
  DERIVED. THE GIVEN ROWS OF THIS SEAT. 7 by the template 'for every input the law returns true; each argument reads behind the call as it read before'; 0 by the template 'total and deterministic' (their statements: YtahdjfegihnolaaTotals.lean).
  GIVEN WITH THE SEED: the statements are not yours to turn. If you find one false, say at which input.
  Laid BY PROGRAM, IN A SANDBOX (cutbox-rows.mjs): the forced cells as the released guide's own fill.sh prints them over the translation 2c35138f68204e0a… (all of the seat's roots in one cut). By AI agents, Wed Nov 11 2026. No macro, syntax, notation, axiom, sorry.
-/
import Derived.Test.YtahdjfegihnolaaChecked
import GoSem.Claim
import GoSem.ClaimJoined
import GoSem.ClaimMapViews
import Derived.JoinedTies
import Derived.KernelRfl
namespace Go.Proofs.Ytahdjfegihnolaa
/- THE CELL 'sum', in the pinned program and in every row, IS THE sha256 OF THE DUMP (.gsa) THAT YtahdjfegihnolaaProg.lean LOADS. Nothing in Lean hashes anything: it is a label: what it is worth is what the hold of that sum in a sandbox is worth. -/
noncomputable def Try.pinned : Pinned := { name := "ytahdjfegihnolaa", sum := "2c35138f68204e0a073d7502fca66d6bea36f97db9e8f3d7d840dc91cb08d103", checked := Try.checked }
namespace Rows
def none {H : Type} : Left H := { results := [], args := [] }

/-- 'guidepostlaw12.LfiRoom': WHATEVER THE INPUT: true; the input reads as it did. -/
def lfiRoomSpec : ChangeSpec := { name := "lfiRoom", fn := fun _ => fun
  | [d1, d2, d3] => { results := [.lit (.bool true)], args := [d1, d2, d3] }
  | _ => none }
def lfiRoomRow : OpenClaim := { program := "ytahdjfegihnolaa", sum := "2c35138f68204e0a073d7502fca66d6bea36f97db9e8f3d7d840dc91cb08d103", func := "guidepost/guidepostlaw12.LfiRoom", spec := "lfiRoom", unfollowed := true, recurses := true, plainKeys := false, apart := false }
def LfiRoomSaid : Prop := lfiRoomRow.holds Try.pinned (OpenSpec.ofChange lfiRoomSpec)

/-- ITS FALSE NEIGHBOUR: 'it returns false'. Refute it at one input. -/
def lfiRoomWrong : ChangeSpec := { name := "lfiRoom", fn := fun _ => fun
  | [d1, d2, d3] => { results := [.lit (.bool false)], args := [d1, d2, d3] }
  | _ => none }
def LfiRoomWrongFalsely : Prop := lfiRoomRow.holds Try.pinned (OpenSpec.ofChange lfiRoomWrong)

/-- 'guidepostlaw12.LfiHeld': WHATEVER THE INPUT: true; the input reads as it did. -/
def lfiHeldSpec : ChangeSpec := { name := "lfiHeld", fn := fun _ => fun
  | [d1, d2, d3] => { results := [.lit (.bool true)], args := [d1, d2, d3] }
  | _ => none }
def lfiHeldRow : OpenClaim := { program := "ytahdjfegihnolaa", sum := "2c35138f68204e0a073d7502fca66d6bea36f97db9e8f3d7d840dc91cb08d103", func := "guidepost/guidepostlaw12.LfiHeld", spec := "lfiHeld", unfollowed := true, recurses := true, plainKeys := false, apart := false }
def LfiHeldSaid : Prop := lfiHeldRow.holds Try.pinned (OpenSpec.ofChange lfiHeldSpec)

/-- ITS FALSE NEIGHBOUR: 'it returns false'. Refute it at one input. -/
def lfiHeldWrong : ChangeSpec := { name := "lfiHeld", fn := fun _ => fun
  | [d1, d2, d3] => { results := [.lit (.bool false)], args := [d1, d2, d3] }
  | _ => none }
def LfiHeldWrongFalsely : Prop := lfiHeldRow.holds Try.pinned (OpenSpec.ofChange lfiHeldWrong)

/-- 'guidepostlaw12.LfiRests': WHATEVER THE INPUT: true; the input reads as it did. -/
def lfiRestsSpec : ChangeSpec := { name := "lfiRests", fn := fun _ => fun
  | [d1, d2, d3] => { results := [.lit (.bool true)], args := [d1, d2, d3] }
  | _ => none }
def lfiRestsRow : OpenClaim := { program := "ytahdjfegihnolaa", sum := "2c35138f68204e0a073d7502fca66d6bea36f97db9e8f3d7d840dc91cb08d103", func := "guidepost/guidepostlaw12.LfiRests", spec := "lfiRests", unfollowed := true, recurses := true, plainKeys := false, apart := false }
def LfiRestsSaid : Prop := lfiRestsRow.holds Try.pinned (OpenSpec.ofChange lfiRestsSpec)

/-- ITS FALSE NEIGHBOUR: 'it returns false'. Refute it at one input. -/
def lfiRestsWrong : ChangeSpec := { name := "lfiRests", fn := fun _ => fun
  | [d1, d2, d3] => { results := [.lit (.bool false)], args := [d1, d2, d3] }
  | _ => none }
def LfiRestsWrongFalsely : Prop := lfiRestsRow.holds Try.pinned (OpenSpec.ofChange lfiRestsWrong)

/-- 'guidepostlaw12.LfiApart': WHATEVER THE INPUT: true; the input reads as it did. -/
def lfiApartSpec : ChangeSpec := { name := "lfiApart", fn := fun _ => fun
  | [d1, d2, d3] => { results := [.lit (.bool true)], args := [d1, d2, d3] }
  | _ => none }
def lfiApartRow : OpenClaim := { program := "ytahdjfegihnolaa", sum := "2c35138f68204e0a073d7502fca66d6bea36f97db9e8f3d7d840dc91cb08d103", func := "guidepost/guidepostlaw12.LfiApart", spec := "lfiApart", unfollowed := true, recurses := true, plainKeys := false, apart := false }
def LfiApartSaid : Prop := lfiApartRow.holds Try.pinned (OpenSpec.ofChange lfiApartSpec)

/-- ITS FALSE NEIGHBOUR: 'it returns false'. Refute it at one input. -/
def lfiApartWrong : ChangeSpec := { name := "lfiApart", fn := fun _ => fun
  | [d1, d2, d3] => { results := [.lit (.bool false)], args := [d1, d2, d3] }
  | _ => none }
def LfiApartWrongFalsely : Prop := lfiApartRow.holds Try.pinned (OpenSpec.ofChange lfiApartWrong)

/-- 'guidepostlaw12.LfiTells': WHATEVER THE INPUT: true; the input reads as it did. -/
def lfiTellsSpec : ChangeSpec := { name := "lfiTells", fn := fun _ => fun
  | [d1, d2, d3] => { results := [.lit (.bool true)], args := [d1, d2, d3] }
  | _ => none }
def lfiTellsRow : OpenClaim := { program := "ytahdjfegihnolaa", sum := "2c35138f68204e0a073d7502fca66d6bea36f97db9e8f3d7d840dc91cb08d103", func := "guidepost/guidepostlaw12.LfiTells", spec := "lfiTells", unfollowed := true, recurses := true, plainKeys := false, apart := false }
def LfiTellsSaid : Prop := lfiTellsRow.holds Try.pinned (OpenSpec.ofChange lfiTellsSpec)

/-- ITS FALSE NEIGHBOUR: 'it returns false'. Refute it at one input. -/
def lfiTellsWrong : ChangeSpec := { name := "lfiTells", fn := fun _ => fun
  | [d1, d2, d3] => { results := [.lit (.bool false)], args := [d1, d2, d3] }
  | _ => none }
def LfiTellsWrongFalsely : Prop := lfiTellsRow.holds Try.pinned (OpenSpec.ofChange lfiTellsWrong)

/-- 'guidepostlaw12.LfiPlays': WHATEVER THE INPUT: true; the input reads as it did. -/
def lfiPlaysSpec : ChangeSpec := { name := "lfiPlays", fn := fun _ => fun
  | [d1, d2, d3] => { results := [.lit (.bool true)], args := [d1, d2, d3] }
  | _ => none }
def lfiPlaysRow : OpenClaim := { program := "ytahdjfegihnolaa", sum := "2c35138f68204e0a073d7502fca66d6bea36f97db9e8f3d7d840dc91cb08d103", func := "guidepost/guidepostlaw12.LfiPlays", spec := "lfiPlays", unfollowed := true, recurses := true, plainKeys := false, apart := false }
def LfiPlaysSaid : Prop := lfiPlaysRow.holds Try.pinned (OpenSpec.ofChange lfiPlaysSpec)

/-- ITS FALSE NEIGHBOUR: 'it returns false'. Refute it at one input. -/
def lfiPlaysWrong : ChangeSpec := { name := "lfiPlays", fn := fun _ => fun
  | [d1, d2, d3] => { results := [.lit (.bool false)], args := [d1, d2, d3] }
  | _ => none }
def LfiPlaysWrongFalsely : Prop := lfiPlaysRow.holds Try.pinned (OpenSpec.ofChange lfiPlaysWrong)

/-- 'guidepostlaw12.LfiNil': WHATEVER THE INPUT: true; the input reads as it did. -/
def lfiNilSpec : ChangeSpec := { name := "lfiNil", fn := fun _ => fun
  | [] => { results := [.lit (.bool true)], args := [] }
  | _ => none }
def lfiNilRow : OpenClaim := { program := "ytahdjfegihnolaa", sum := "2c35138f68204e0a073d7502fca66d6bea36f97db9e8f3d7d840dc91cb08d103", func := "guidepost/guidepostlaw12.LfiNil", spec := "lfiNil", unfollowed := true, recurses := true, plainKeys := false, apart := false }
def LfiNilSaid : Prop := lfiNilRow.holds Try.pinned (OpenSpec.ofChange lfiNilSpec)

/-- ITS FALSE NEIGHBOUR: 'it returns false'. Refute it at one input. -/
def lfiNilWrong : ChangeSpec := { name := "lfiNil", fn := fun _ => fun
  | [] => { results := [.lit (.bool false)], args := [] }
  | _ => none }
def LfiNilWrongFalsely : Prop := lfiNilRow.holds Try.pinned (OpenSpec.ofChange lfiNilWrong)

/- THE SECOND FORM. 'bulk': how many values and letters a reading holds, each counted each time it is reached (what is shared counts as often as it is met; a slice's spare places count too). A statement '..UptoSaid' is the law's where the arguments, and the package variables that the reading takes, are together of bulk at most 1048576: NARROWER than '..Said'. Prove '..Said' where nothing that the law and all that it calls make is longer than what came in: it says more and counts as full. Else prove '..UptoSaid'. A law counts once. -/
mutual
def uptoBulk {H : Type} : DataW H → Nat
  | .lit (.string bytes) => bytes.length + 1
  | .lit _ => 1
  | .nil => 1
  | .ptr d => uptoBulk d + 1
  | .slice elems spare => uptoBulkAll elems + uptoBulkAll spare + 1
  | .agg parts => uptoBulkAll parts + 1
  | .iface _ d => uptoBulk d + 1
  | .map entries => uptoBulkEntries entries + 1
  | .held _ => 1
def uptoBulkAll {H : Type} : List (DataW H) → Nat
  | [] => 0
  | d :: r => uptoBulk d + uptoBulkAll r
def uptoBulkEntries {H : Type} : List (Lit × DataW H) → Nat
  | [] => 0
  | x :: r => uptoBulkEntry x + uptoBulkEntries r
def uptoBulkEntry {H : Type} : Lit × DataW H → Nat
  | (.string bytes, d) => bytes.length + uptoBulk d + 1
  | (_, d) => uptoBulk d + 1
 end
def uptoSmall : (H : Type) → List (DataW H) → Bool := fun _ ds => decide (uptoBulkAll ds ≤ 1048576)
def OpenSpec.upto (s : _root_.Go.ChangeSpec) : _root_.Go.OpenSpec := { _root_.Go.OpenSpec.ofChange s with cond := some uptoSmall }

/-- 'guidepostlaw12.LfiRoom', WHERE WHAT IT READS IS OF BULK AT MOST 1048576: true; the input reads as it did. -/
def lfiRoomUptoRow : OpenClaim := { program := "ytahdjfegihnolaa", sum := "2c35138f68204e0a073d7502fca66d6bea36f97db9e8f3d7d840dc91cb08d103", func := "guidepost/guidepostlaw12.LfiRoom", spec := "lfiRoom", unfollowed := true, recurses := true, plainKeys := false, apart := false, narrowed := true }
def LfiRoomUptoSaid : Prop := lfiRoomUptoRow.holds Try.pinned (OpenSpec.upto lfiRoomSpec)

/-- 'guidepostlaw12.LfiHeld', WHERE WHAT IT READS IS OF BULK AT MOST 1048576: true; the input reads as it did. -/
def lfiHeldUptoRow : OpenClaim := { program := "ytahdjfegihnolaa", sum := "2c35138f68204e0a073d7502fca66d6bea36f97db9e8f3d7d840dc91cb08d103", func := "guidepost/guidepostlaw12.LfiHeld", spec := "lfiHeld", unfollowed := true, recurses := true, plainKeys := false, apart := false, narrowed := true }
def LfiHeldUptoSaid : Prop := lfiHeldUptoRow.holds Try.pinned (OpenSpec.upto lfiHeldSpec)

/-- 'guidepostlaw12.LfiRests', WHERE WHAT IT READS IS OF BULK AT MOST 1048576: true; the input reads as it did. -/
def lfiRestsUptoRow : OpenClaim := { program := "ytahdjfegihnolaa", sum := "2c35138f68204e0a073d7502fca66d6bea36f97db9e8f3d7d840dc91cb08d103", func := "guidepost/guidepostlaw12.LfiRests", spec := "lfiRests", unfollowed := true, recurses := true, plainKeys := false, apart := false, narrowed := true }
def LfiRestsUptoSaid : Prop := lfiRestsUptoRow.holds Try.pinned (OpenSpec.upto lfiRestsSpec)

/-- 'guidepostlaw12.LfiApart', WHERE WHAT IT READS IS OF BULK AT MOST 1048576: true; the input reads as it did. -/
def lfiApartUptoRow : OpenClaim := { program := "ytahdjfegihnolaa", sum := "2c35138f68204e0a073d7502fca66d6bea36f97db9e8f3d7d840dc91cb08d103", func := "guidepost/guidepostlaw12.LfiApart", spec := "lfiApart", unfollowed := true, recurses := true, plainKeys := false, apart := false, narrowed := true }
def LfiApartUptoSaid : Prop := lfiApartUptoRow.holds Try.pinned (OpenSpec.upto lfiApartSpec)

/-- 'guidepostlaw12.LfiTells', WHERE WHAT IT READS IS OF BULK AT MOST 1048576: true; the input reads as it did. -/
def lfiTellsUptoRow : OpenClaim := { program := "ytahdjfegihnolaa", sum := "2c35138f68204e0a073d7502fca66d6bea36f97db9e8f3d7d840dc91cb08d103", func := "guidepost/guidepostlaw12.LfiTells", spec := "lfiTells", unfollowed := true, recurses := true, plainKeys := false, apart := false, narrowed := true }
def LfiTellsUptoSaid : Prop := lfiTellsUptoRow.holds Try.pinned (OpenSpec.upto lfiTellsSpec)

/-- 'guidepostlaw12.LfiPlays', WHERE WHAT IT READS IS OF BULK AT MOST 1048576: true; the input reads as it did. -/
def lfiPlaysUptoRow : OpenClaim := { program := "ytahdjfegihnolaa", sum := "2c35138f68204e0a073d7502fca66d6bea36f97db9e8f3d7d840dc91cb08d103", func := "guidepost/guidepostlaw12.LfiPlays", spec := "lfiPlays", unfollowed := true, recurses := true, plainKeys := false, apart := false, narrowed := true }
def LfiPlaysUptoSaid : Prop := lfiPlaysUptoRow.holds Try.pinned (OpenSpec.upto lfiPlaysSpec)

/-- 'guidepostlaw12.LfiNil', WHERE WHAT IT READS IS OF BULK AT MOST 1048576: true; the input reads as it did. -/
def lfiNilUptoRow : OpenClaim := { program := "ytahdjfegihnolaa", sum := "2c35138f68204e0a073d7502fca66d6bea36f97db9e8f3d7d840dc91cb08d103", func := "guidepost/guidepostlaw12.LfiNil", spec := "lfiNil", unfollowed := true, recurses := true, plainKeys := false, apart := false, narrowed := true }
def LfiNilUptoSaid : Prop := lfiNilUptoRow.holds Try.pinned (OpenSpec.upto lfiNilSpec)

end Rows
end Go.Proofs.Ytahdjfegihnolaa
