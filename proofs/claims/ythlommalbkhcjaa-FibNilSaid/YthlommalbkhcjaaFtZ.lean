/- Aggregates of many cells that are put together; cells in the middle of a block. -/
import Derived.Test.YthlommalbkhcjaaStC
namespace Go.Proofs.Ythlommalbkhcjaa
open Go.RowKit
theorem fold_set : ∀ (us pre mid post : List Value) (k off : Nat), mid.length = us.length → off + k = pre.length →
    (us.zipIdx k).foldl (fun (cs : Array Value) (x : Value × Nat) => cs.setIfInBounds (off + x.2) x.1) (pre ++ mid ++ post).toArray = (pre ++ us ++ post).toArray
  | [], pre, mid, post, k, off, hl, _ => by
    obtain rfl := List.eq_nil_of_length_eq_zero hl
    rfl
  | u :: us, pre, mid, post, k, off, hl, ho => by
    match mid, hl with
    | x :: mid, hl =>
      rw [List.zipIdx_cons, List.foldl_cons]
      have e : ((pre ++ x :: mid ++ post).toArray).setIfInBounds (off + k) u = ((pre ++ [u]) ++ mid ++ post).toArray := by
        rw [List.setIfInBounds_toArray, ho, List.append_assoc, List.set_append_right _ _ (Nat.le_refl _), Nat.sub_self, List.cons_append, List.set_cons_zero]
        simp
      rw [e, fold_set us (pre ++ [u]) mid post (k + 1) off (by simpa using hl) (by simp; omega)]
      simp
theorem fold_setA (us : Array Value) (pre mid post : List Value) (off : Nat) (hl : mid.length = us.size) (ho : off = pre.length) :
    us.zipIdx.foldl (fun (cs : Array Value) (x : Value × Nat) => cs.setIfInBounds (off + x.2) x.1) (pre ++ mid ++ post).toArray = (pre ++ us.toList ++ post).toArray := by
  rw [← fold_set us.toList pre mid post 0 off (by simpa using hl) (by omega)]
  rw [← Array.foldl_toList, Array.toList_zipIdx]
theorem fill_one {place : Nat → Option (Nat × Nat)} {i off size : Nat} {v : Value} {cs : Array Value} {pre mid post : List Value} {rest : List (Nat × Value)} (hcs : cs = (pre ++ mid ++ post).toArray) (hp : place i = some (off, size)) (hs : v.cells.size = size) (hm : mid.length = size) (ho : off = pre.length) :
    Instr.fill place cs ((i, v) :: rest) = Instr.fill place (pre ++ v.cells.toList ++ post).toArray rest := by
  subst hcs
  rw [Instr.fill, hp]
  dsimp only
  rw [if_neg (by simp [hs]; omega), fold_setA v.cells pre mid post off (by omega) ho]
/-- Cells in the middle of a block are stored. -/
theorem blk_setCells_mid {g : Nat} {t : TypeId} {post : List Value} : ∀ (us pre mid : List Value) (w : World), mid.length = us.length → Blk w g t (pre ++ mid ++ post).toArray → Blk (w.setCells g pre.length us) g t (pre ++ us ++ post).toArray
  | [], pre, mid, w, hl, hb => by
    obtain rfl := List.eq_nil_of_length_eq_zero hl
    exact hb
  | v :: us, pre, mid, w, hl, hb => by
    match mid, hl with
    | x :: s, hl =>
      have h2 := hb.set_ pre.length v
      rw [List.setIfInBounds_toArray, List.append_assoc, List.set_append_right _ _ (Nat.le_refl _), Nat.sub_self, List.cons_append, List.set_cons_zero] at h2
      have h3 := blk_setCells_mid us (pre ++ [v]) s (w.setCell ⟨g, pre.length, none⟩ v) (by simpa using hl) (by simpa using h2)
      rw [List.length_append] at h3
      unfold World.setCells
      simpa using h3
end Go.Proofs.Ythlommalbkhcjaa
