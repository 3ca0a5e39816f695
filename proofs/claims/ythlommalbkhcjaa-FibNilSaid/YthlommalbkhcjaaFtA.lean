/- Nodes of tries of ways: their cells. -/
import Derived.Test.YthlommalbkhcjaaFtZ
import Derived.Test.YthlommalbkhcjaaTrD
namespace Go.Proofs.Ythlommalbkhcjaa
open Go.RowKit

/-- A way of nothing. -/
def wy0 : Array Value := (List.replicate 257 (Value.int .i64 0)).toArray
/-- What the numbers in a trie stand for: ways, of 257 cells each; 0 for that of nothing. -/
structure Dc (dc : Int → Array Value) : Prop where
  sz : ∀ v, (dc v).size = 257
  one : ∀ v, (dc v).all (·.oneCell') = true
  z : dc 0 = wy0
/-- A node's cells. -/
def ndX (a n : Int) (cs : Array Value) (h : Bool) (l r : Value) : Array Value := (([Value.int .u32 a, .int .i64 n] ++ cs.toList) ++ [.bool h, l, r]).toArray
section
variable {a n : Int} {cs : Array Value} {h : Bool} {l r : Value}
theorem ndX_size (hc : cs.size = 257) : (ndX a n cs h l r).size = 262 := by simp [ndX, hc]
theorem ndX_a : (ndX a n cs h l r)[0]? = some (.int .u32 a) := by simp [ndX]
theorem ndX_n : (ndX a n cs h l r)[1]? = some (.int .i64 n) := by simp [ndX]
theorem ndX_at (hc : cs.size = 257) {i : Nat} (hi : i < 257) : (ndX a n cs h l r)[2 + i]? = cs[i]? := by
  unfold ndX
  rw [List.getElem?_toArray, List.getElem?_append_left (by simp [hc]; omega), List.getElem?_append_right (by simp)]
  simp
theorem ndX_tail (hc : cs.size = 257) (i : Nat) : (ndX a n cs h l r)[259 + i]? = [Value.bool h, l, r][i]? := by
  unfold ndX
  rw [List.getElem?_toArray, List.getElem?_append_right (by simp [hc])]
  congr 1
  simp [hc]
theorem ndX_h (hc : cs.size = 257) : (ndX a n cs h l r)[259]? = some (.bool h) := ndX_tail hc 0
theorem ndX_l (hc : cs.size = 257) : (ndX a n cs h l r)[260]? = some l := ndX_tail hc 1
theorem ndX_r (hc : cs.size = 257) : (ndX a n cs h l r)[261]? = some r := ndX_tail hc 2
theorem ndX_set (hc : cs.size = 257) (i : Nat) (z : Value) : (ndX a n cs h l r).setIfInBounds (259 + i) z = (([Value.int .u32 a, .int .i64 n] ++ cs.toList) ++ ([Value.bool h, l, r].set i z)).toArray := by
  unfold ndX
  rw [List.setIfInBounds_toArray, List.set_append_right _ _ (by simp [hc])]
  congr 2
  congr 1
  simp [hc]
theorem ndX_setH (hc : cs.size = 257) (g : Bool) : (ndX a n cs h l r).setIfInBounds 259 (.bool g) = ndX a n cs g l r := ndX_set hc 0 _
theorem ndX_setL (hc : cs.size = 257) (z : Value) : (ndX a n cs h l r).setIfInBounds 260 z = ndX a n cs h z r := ndX_set hc 1 _
theorem ndX_setR (hc : cs.size = 257) (z : Value) : (ndX a n cs h l r).setIfInBounds 261 z = ndX a n cs h l z := ndX_set hc 2 _
theorem ndX_inj (hc : cs.size = 257) {l2 r2 : Value} (e : ndX a n cs h l r = ndX a n cs h l2 r2) : l = l2 ∧ r = r2 := by
  have e1 := ndX_l (a := a) (n := n) (h := h) (l := l) (r := r) hc
  have e2 := ndX_r (a := a) (n := n) (h := h) (l := l) (r := r) hc
  rw [e, ndX_l hc] at e1
  rw [e, ndX_r hc] at e2
  injection e1 with e1
  injection e2 with e2
  exact ⟨e1.symm, e2.symm⟩
end
section
variable {w : World} {b g : Nat} {a n : Int} {cs vs : Array Value} {h : Bool} {l r : Value} {t : TypeId}
/-- Where a node's way stands. -/
theorem ndX_range (hb : Blk w b t (ndX a n cs h l r)) (hc : cs.size = 257) : w.rangeAt b 2 cs.toList := fun j v hj => by
  have hj' : cs[j]? = some v := by simpa using hj
  rw [hb.cell, ndX_at hc (by have := (Array.getElem?_eq_some_iff.1 hj').1; omega)]
  exact hj'
theorem ndX_there (hb : Blk w b t (ndX a n cs h l r)) (hc : cs.size = 257) : w.there b 2 257 := fun j hj => ⟨by
  rw [hb.cell, ndX_at hc hj, Array.getElem?_eq_getElem (by omega)]
  rfl, hb.frozen _⟩
theorem blk_setWay (hb : Blk w b t (ndX a n cs h l r)) (hc : cs.size = 257) (hv : vs.size = 257) : Blk (w.setCells b 2 vs.toList) b t (ndX a n vs h l r) := by
  exact blk_setCells_mid (post := [.bool h, l, r]) vs.toList [Value.int .u32 a, .int .i64 n] cs.toList w (by simp [hc, hv]) hb
end
theorem wy0_size : wy0.size = 257 := by kernel_rfl
theorem wy0_one : wy0.all (·.oneCell') = true := by kernel_rfl
theorem wy_info : (Try.prog.info? 33).map (·.size) = some 257 := by kernel_rfl
theorem nd_info : (Try.prog.info? 110).map (·.size) = some 262 := by kernel_rfl
/-- A node's way is loaded. -/
theorem ld_way {w : World} {b : Nat} {a n : Int} {cs : Array Value} {h : Bool} {l r : Value} (hb : Blk w b 110 (ndX a n cs h l r)) (hc : cs.size = 257) : (Instr.loadAt 33 (.pointer (some ⟨b, 2, none⟩))).run Try.prog w = .ok (.agg cs) w := by
  have := run_loadAt_mid (P := Try.prog) w b 2 33 cs.toList _ (ndX_range hb hc) Try.underlying33 rfl (by simpa [hc] using wy_info)
  simpa using this
/-- .. stored. -/
theorem st_way {w : World} {b : Nat} {a n : Int} {cs vs : Array Value} {h : Bool} {l r : Value} (hb : Blk w b 110 (ndX a n cs h l r)) (hc : cs.size = 257) (hv : vs.size = 257) (h1 : vs.all (·.oneCell') = true) :
    (Instr.storeAt 33 (.pointer (some ⟨b, 2, none⟩)) (.agg vs)).run Try.prog w = .ok () (w.setCells b 2 vs.toList) :=
  run_storeAt_mid w b 2 _ vs (by have := ndX_there hb hc; rwa [← hv] at this) (by rw [hv]; exact wy_info) h1
theorem zero_way (w : World) : (zeroValue 33).run Try.prog w = .ok (.agg wy0) w := by kernel_rfl
theorem way_alloc (w : World) : (Instr.alloc 33 true (.tuple #[])).run Try.prog w = .ok (.pointer (some ⟨w.heap.size, 0, none⟩)) (w.alloc (.cells wy0 33)) := by
  unfold Instr.alloc
  rw [Sem.run_bind, zero_way]
  rfl
theorem zero_node (w : World) : (zeroValue 110).run Try.prog w = .ok (.agg (ndX 0 0 wy0 false (.pointer none) (.pointer none))) w := by kernel_rfl
theorem node_alloc (w : World) : (Instr.alloc 110 true (.tuple #[])).run Try.prog w = .ok (.pointer (some ⟨w.heap.size, 0, none⟩)) (w.alloc (.cells (ndX 0 0 wy0 false (.pointer none) (.pointer none)) 110)) := by
  unfold Instr.alloc
  rw [Sem.run_bind, zero_node]
  rfl
/-- Cells, one by one. -/
theorem cs_of (cs : Array Value) (hc : cs.size = 257) : cs = ((List.range 257).map fun i => cs.getD i undef).toArray := by
  apply Array.ext
  · simp [hc]
  · intro i h1 h2
    simp [h1]
theorem bd_node' (w : World) (a n : Int) (f : Nat → Value) (h : Bool) : (Instr.build 110 #[(0, .agg #[.int .u32 a, .int .i64 n]), (1, .agg ((List.range 257).map f).toArray), (2, .bool h)]).run Try.prog w = .ok (.agg (ndX a n ((List.range 257).map f).toArray h (.pointer none) (.pointer none))) w := by kernel_rfl
theorem bd_node (w : World) (a n : Int) (cs : Array Value) (hc : cs.size = 257) (h : Bool) : (Instr.build 110 #[(0, .agg #[.int .u32 a, .int .i64 n]), (1, .agg cs), (2, .bool h)]).run Try.prog w = .ok (.agg (ndX a n cs h (.pointer none) (.pointer none))) w := by
  rw [cs_of cs hc]
  exact bd_node' w a n _ h
end Go.Proofs.Ythlommalbkhcjaa
