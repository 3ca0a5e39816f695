/- RelPlays: pieces of its code, and what they leave. -/
import Derived.Test.YtmkjnblmgofoeaaPlM
import Derived.Test.YtmkjnblmgofoeaaPlL
import Derived.Test.YtmkjnblmgofoeaaRowA
import Derived.Deep.DeepCutAuto
import Derived.Deep.LoopGhost
import Derived.Deep.CutBlock
import Derived.Deep.QuietTactic
import Derived.BigQuiet
namespace Go.Proofs.Ytmkjnblmgofoeaa
open Go.RowKit

def findBlkP (n : Nat) : Code → Option Code
  | .block k c => if k = n then some (.block k c) else findBlkP n c
  | .seq a b => match findBlkP n a with
    | some c => some c
    | none => findBlkP n b
  | .cond _ a b => match findBlkP n a with
    | some c => some c
    | none => findBlkP n b
  | .loop c => findBlkP n c
  | _ => none
def findRegP (n : Nat) : Code → Option Code
  | .region k o d => if k = n then some (.region k o d) else none
  | .block _ c => findRegP n c
  | .seq a b => match findRegP n a with
    | some c => some c
    | none => findRegP n b
  | .cond _ a b => match findRegP n a with
    | some c => some c
    | none => findRegP n b
  | .loop c => findRegP n c
  | _ => none
noncomputable def plBlk (n : Nat) : Code := (Try.f6.body.bind (findBlkP n)).getD .skip
noncomputable def plReg (n : Nat) : Code := (Try.f6.body.bind (findRegP n)).getD .skip

/-- What stands between the acts. -/
structure PMid (w wr : World) (lab : Nat → Nat) (s : SS) (v : Value) (al : List (List UInt8)) (k : Nat) : Prop where
  st : PlS w wr lab s s w.heap.size (w.heap.size + 1) v al
  ok : PlOk s k
/-- Within a round: the copy, and the act's box. -/
structure PIn (w wr : World) (lab : Nat → Nat) (s : SS) (v : Value) (al : List (List UInt8)) (k bc : Nat) (s0 : SS) : Prop where
  mid : PMid w wr lab s v al k
  cp : PSt lab wr 1 bc s0
  a0 : 1 ≤ s0.again
def BoxAt (wr : World) (lab : Nat → Nat) (bg : Nat) (kd : Int) (u : Value) (q a : Nat) (gu : Value) : Prop := Blk wr bg 50 #[.int .i64 kd, u, .int .u64 q, .int .u64 a, gu] ∧ lab bg = 10
theorem BoxAt.keep {wr w2 : World} {lab lab2 : Nat → Nat} {bg : Nat} {kd : Int} {u gu : Value} {q a c : Nat} (h : BoxAt wr lab bg kd u q a gu) (hs : Step c lab lab2 wr w2) (hc : c ≠ 10) : BoxAt w2 lab2 bg kd u q a gu :=
  ⟨h.1.upd hs.upd fun e => hc (h.2 ▸ e).symm, by rw [hs.lab bg h.1.lt]; exact h.2⟩
theorem acCells_getP : ∀ (l : List Ac) (k : Nat) (a : Ac), l[k]? = some a → (l.flatMap Ac.cells)[k * 5]? = some (.int .i64 a.kind) ∧ (l.flatMap Ac.cells)[k * 5 + 1]? = some a.u ∧ (l.flatMap Ac.cells)[k * 5 + 2]? = some (.int .u64 a.g.seq) ∧
    (l.flatMap Ac.cells)[k * 5 + 3]? = some (.int .u64 a.g.ack) ∧ (l.flatMap Ac.cells)[k * 5 + 4]? = some a.g.u
  | a :: r, 0, g, h => by
    obtain rfl : a = g := by simpa using h
    simp [Ac.cells, Sg.cells]
  | a :: r, k + 1, g, h => by
    have ih := acCells_getP r k g (by simpa using h)
    have e : (a :: r).flatMap Ac.cells = .int .i64 a.kind :: a.u :: .int .u64 a.g.seq :: .int .u64 a.g.ack :: a.g.u :: r.flatMap Ac.cells := rfl
    rw [e, show (k + 1) * 5 = k * 5 + 1 + 1 + 1 + 1 + 1 from by omega]
    simpa using ih
theorem quiet_leftP {P : Program} {f : FuncId} {args : Array Value} {w : World} {n : Nat} {v : Value}
    (h : Calls P f args (w.drewN n) fun e w' => e = .returned v ∧ w.drewN n = w') : Calls P f args (w.drewN n) fun e w'' => e = .returned v ∧ ∃ m, w'' = w.drewN m :=
  h.mono fun _ _ ⟨he, hm⟩ => ⟨he, n, hm.symm⟩
theorem PSt.ofHeapP {wr w2 : World} {lab : Nat → Nat} {c b : Nat} {s : SS} (h : PSt lab wr c b s) (hc : c < 10) (e : w2.heap = wr.heap) (ht : w2.tape = wr.tape ∧ w2.os = wr.os ∧ w2.output = wr.output) : PSt lab w2 c b s := h.keep (Step.ofHeap 20 e ht) (by omega) (by omega)
def KPost (w : World) (k bc : Nat) (s0 : SS) (wx : World) : Prop := ∃ (lab : Nat → Nat) (s : SS) (v : Value) (al : List (List UInt8)), PIn w wx lab s v al (k + 1) bc s0
end Go.Proofs.Ytmkjnblmgofoeaa
