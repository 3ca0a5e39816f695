/- FibMakes: the region of its swaps. -/
import Derived.Test.YthlommalbkhcjaaGreatFxG
import Derived.Deep.QuietTactic
import Derived.BigQuiet
namespace Go.Proofs.YthlommalbkhcjaaGreat
open Go.RowKit Go.Sort Go.BigFrame
def SwΦ (wk1 : World) (ad : Addr) (n tc k j : Nat) (X : List Rt) (r s : Rt) : Nat → Value → World → Prop
  | 0, u, _ => u = .slice (some ad) n tc
  | 1, u, _ => u = .int .i64 (k : Int)
  | 2, u, _ => u = .slice (some ad) n tc
  | 3, u, _ => u = .slice (some ad) n tc
  | 4, u, _ => u = .int .i64 (n : Int)
  | 5, u, _ => u = .int .i64 ((n : Int) - 1)
  | 6, u, _ => u = .int .i64 (k : Int)
  | 7, u, _ => u = .int .i64 (j : Int)
  | 8, u, _ => u = .slice (some ad) n tc
  | 9, u, _ => u = .slice (some ad) n tc
  | 10, u, _ => u = .int .i64 (n : Int)
  | 11, u, _ => u = .int .i64 ((n : Int) - 1)
  | 12, u, _ => u = .int .i64 (k : Int)
  | 13, u, _ => u = .int .i64 (j : Int)
  | 14, u, _ => u = .pointer (some (ad.add (j * 6)))
  | 15, u, _ => u = rtV r
  | 16, u, _ => u = .slice (some ad) n tc
  | 17, u, _ => u = .int .i64 (k : Int)
  | 18, u, _ => u = .pointer (some (ad.add (k * 6)))
  | 19, u, _ => u = rtV s
  | 20, u, _ => u = .pointer (some (ad.add (k * 6)))
  | 21, _, w => TurnM wk1 w (some ad) n (X.set k r)
  | 22, u, _ => u = .pointer (some (ad.add (j * 6)))
  | 23, _, w => TurnM wk1 w (some ad) n ((X.set k r).set j s)
  | _, _, _ => True
def SwΨ (wk1 : World) (ad : Addr) (n k j : Nat) (X : List Rt) (r s : Rt) : Nat → World → Prop
  | 15, w => (Instr.loadAt 54 (.pointer (some (ad.add (j * 6))))).run Tryz.prog w = .ok (rtV r) w
  | 19, w => (Instr.loadAt 54 (.pointer (some (ad.add (k * 6))))).run Tryz.prog w = .ok (rtV s) w
  | 21, w => TurnM wk1 w (some ad) n X
  | _, _ => True
def swDead (i j : Nat) : Bool := i == 23 && j == 21
set_option maxRecDepth 20000 in
theorem SwΦ.bare {wk1 : World} {ad : Addr} {n tc k j : Nat} {X : List Rt} {r s : Rt} {wx wy : World} {u : Value} : ∀ i, ¬ (i = 21 ∨ i = 23) → SwΦ wk1 ad n tc k j X r s i u wx → SwΦ wk1 ad n tc k j X r s i u wy := by
  intro i hi h
  unfold SwΦ at h ⊢
  split at h
  all_goals first
    | exact h
    | (exfalso; omega)
set_option maxRecDepth 20000 in
theorem SwΨ.bare {wk1 : World} {ad : Addr} {n k j : Nat} {X : List Rt} {r s : Rt} {wx wy : World} : ∀ i, ¬ (i = 15 ∨ i = 19 ∨ i = 21) → SwΨ wk1 ad n k j X r s i wx → SwΨ wk1 ad n k j X r s i wy := by
  intro i hi h
  unfold SwΨ at h ⊢
  split at h
  all_goals first
    | exact h
    | (exfalso; omega)
end Go.Proofs.YthlommalbkhcjaaGreat
