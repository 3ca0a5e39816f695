/- Ranges over functions: what every such walk leans on. -/
import Derived.Test.YtfddkehnhkfjeaaMem
import Derived.Test.YtfddkehnhkfjeaaRgF
import Derived.RangeFuncBound
import Derived.RangeFuncCalls
import Derived.RangeFuncLeaves
import Derived.Shelf.Abstract
import Derived.OwnWalkIn
import Derived.TacticsInMore
import Derived.LoopNIn
import Derived.LoopIn
namespace Go.Proofs.Ytfddkehnhkfjeaa
open Go.RowKit
theorem blk_own {W W' : World} {row : Option Nat} {b : Nat} {t : TypeId} {cs : Array Value} (h : Blk W b t cs) (hg : W.grownBy W' row) (hr : ∀ r, row = some r → ∃ o : Obj, W.heap[r]? = some o ∧ o.isCells = false) : Blk W' b t cs := by
  refine (hg.block b h.lt fun e => ?_).trans h
  obtain ⟨o, ho, hc⟩ := hr b e.symm
  unfold Blk at h
  rw [h] at ho
  cases ho
  cases hc
theorem own_own {W W' : World} {row : Option Nat} {base : Nat} {e : TypeId} {size n : Nat} {v : Value} {xs : List Value} (h : W.ownsRow base e size v n xs) (hg : W.grownBy W' row) (hr : ∀ r, row = some r → ∃ o : Obj, W.heap[r]? = some o ∧ o.isCells = false) : W'.ownsRow base e size v n xs := by
  refine own_keep (I := fun k => some k ≠ row) h ⟨hg.size, fun k hk hl => hg.block k hl hk⟩ fun g hgv => ?_
  intro he
  obtain ⟨o, ho, hc⟩ := hr g he.symm
  rcases h.2 with ⟨rfl, _⟩ | ⟨g', cap, cur, rfl, _, hh, _⟩
  · cases hgv
  · injection hgv with hgv
    subst hgv
    rw [hh] at ho
    cases ho
    cases hc
theorem same_t {I : Nat → Prop} {A B C : World} (h : Same I A B) (k : Same I B C) : Same I A C := h.trans k
theorem same_b {I : Nat → Prop} {w : World} (hI : ∀ k, I k → k < w.heap.size) (W : World) (l : Nat) (o o' : Obj) (hl : w.heap.size ≤ l) (h : W.heap[l]? = some o) (_ : o.isCells = false) (_ : o.isWalk = false) : Same I W (W.putObj l o') :=
  ⟨(grownBy_putObj' W l o').size, fun k hk _ => (grownBy_putObj' W l o').block k (by have := hI k hk; have := (Array.getElem?_eq_some_iff.1 h).1; omega) (fun e => by have := hI k hk; cases e; omega)⟩
/-- What turns blocks of cells alone keeps the walk's own blocks. -/
theorem keeps_of_cells {F : Nat → Prop} {W W' : World} (B : Nat) (h : Upd F W W') (hF : ∀ k, F k → k < W.heap.size → ∃ cs t, Blk W k t cs) : KeepsFrom B W W' :=
  ⟨h.size, fun k o _ hk ho => (h.block k (Array.getElem?_eq_some_iff.1 hk).1 fun hf => by
    obtain ⟨cs, t, hb⟩ := hF k hf (Array.getElem?_eq_some_iff.1 hk).1
    unfold Blk at hb
    rw [hk] at hb
    cases hb
    cases ho).trans hk⟩
end Go.Proofs.Ytfddkehnhkfjeaa
