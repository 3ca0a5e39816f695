/- RelWhole: pieces of its code, and what they leave. -/
import Derived.Test.YtmkjnblmgofoeaaWhoD
import Derived.Test.YtmkjnblmgofoeaaRowW
import Derived.Deep.DeepCutAuto
import Derived.Deep.LoopGhost
import Derived.Deep.CutBlock
namespace Go.Proofs.Ytmkjnblmgofoeaa
open Go.RowKit

def findBlk (n : Nat) : Code → Option Code
  | .block k c => if k = n then some (.block k c) else findBlk n c
  | .seq a b => match findBlk n a with
    | some c => some c
    | none => findBlk n b
  | .cond _ a b => match findBlk n a with
    | some c => some c
    | none => findBlk n b
  | .loop c => findBlk n c
  | _ => none
def findReg (n : Nat) : Code → Option Code
  | .region k o d => if k = n then some (.region k o d) else none
  | .block _ c => findReg n c
  | .seq a b => match findReg n a with
    | some c => some c
    | none => findReg n b
  | .cond _ a b => match findReg n a with
    | some c => some c
    | none => findReg n b
  | .loop c => findReg n c
  | _ => none
noncomputable def whoBlk (n : Nat) : Code := (Try.f4.body.bind (findBlk n)).getD .skip
noncomputable def whoReg (n : Nat) : Code := (Try.f4.body.bind (findReg n)).getD .skip

/-- What stands between the acts. -/
structure Mid (w wr : World) (lab : Nat → Nat) (q : Fs) (v : Vv) (k : Nat) : Prop where
  st : WSt w wr lab q v
  e1 : v.av = v.fv
  e2 : v.sa = v.sv
  e3 : v.ta = v.tv
  ok : OkF q
  s : ∀ f, f < 2 → (q.sn f).length ≤ k
theorem Mid.drewN {w wr : World} {lab : Nat → Nat} {q : Fs} {v : Vv} {k : Nat} (h : Mid w wr lab q v k) (n : Nat) : Mid w (wr.drewN n) lab q v k := ⟨h.st.ofHeap rfl ⟨rfl, rfl, rfl⟩, h.e1, h.e2, h.e3, h.ok, h.s⟩
def SwPost (w : World) (k : Nat) (wx : World) : Prop := ∃ (lab3 : Nat → Nat) (q3 : Fs) (v3 : Vv), Mid w wx lab3 q3 v3 (k + 1) ∧ ∀ f, f < 2 → (q3.F f).length ≤ 20 * (k + 1)
/-- The k-th way of the argument, whatever has become of the memory behind w. -/
def WayAt (w : World) (ad : Addr) (k : Nat) (kd N : Int) (back : Bool) : Prop := ∀ wx : World, Below w.heap.size w wx →
  wx.cell? (ad.add (k * 3)) = some (.int .i64 kd) ∧ wx.cell? ⟨(ad.add (k * 3)).block, (ad.add (k * 3)).off + 1, none⟩ = some (.int .i64 N) ∧ wx.cell? ⟨(ad.add (k * 3)).block, (ad.add (k * 3)).off + 2, none⟩ = some (.bool back)
end Go.Proofs.Ytmkjnblmgofoeaa
