/- Tries: two prefixes compared. -/
import Derived.Test.YthlommalbkhcjaaFtM
namespace Go.Proofs.Ythlommalbkhcjaa
open Go.RowKit

theorem eql_px (a b : Nat) (m n : Int) (w : World) : (binOp .eql 25 (pxV a m) (pxV b n)).run Try.prog w = .ok (.bool (decide (a = b ∧ m = n))) w := by
  go_simp
  by_cases h1 : (a : Int) = (b : Int)
  · rw [if_pos h1]
    have h1' : a = b := by omega
    by_cases h2 : m = n
    · rw [if_pos h2]; simp [h1', h2]
    · rw [if_neg h2]; simp [h2]
  · rw [if_neg h1]
    have h1' : ¬ a = b := by omega
    simp [h1']
theorem neq_px (a b : Nat) (m n : Int) (w : World) : (binOp .neq 25 (pxV a m) (pxV b n)).run Try.prog w = .ok (.bool (!decide (a = b ∧ m = n))) w := by
  go_simp
  by_cases h1 : (a : Int) = (b : Int)
  · rw [if_pos h1]
    have h1' : a = b := by omega
    by_cases h2 : m = n
    · rw [if_pos h2]; simp [h1', h2]
    · rw [if_neg h2]; simp [h2]
  · rw [if_neg h1]
    have h1' : ¬ a = b := by omega
    simp [h1']
section
variable {w : World} {b o : Nat}
theorem ld_pxB {t : TypeId} {a n : Int} (h : Blk w b t #[.int .u32 a, .int .i64 n]) : (Instr.loadAt 25 (.pointer (some ⟨b, 0, none⟩))).run Try.prog w = .ok (.agg #[.int .u32 a, .int .i64 n]) w := by
  have h0 : w.cell? ⟨b, 0, none⟩ = some (.int .u32 a) := h.cell 0
  have h1 : w.cell? ⟨b, 1, none⟩ = some (.int .i64 n) := h.cell 1
  simp [go_sem, h0, h1]
/-- A node's prefix, bit, children are loaded. -/
theorem ld_ndP {t : TypeId} {a n : Int} {cs : Array Value} {h : Bool} {l r : Value} (hb : Blk w b t (ndX a n cs h l r)) : (Instr.loadAt 25 (.pointer (some ⟨b, 0, none⟩))).run Try.prog w = .ok (.agg #[.int .u32 a, .int .i64 n]) w := by
  have h0 : w.cell? ⟨b, 0, none⟩ = some (.int .u32 a) := (hb.cell 0).trans ndX_a
  have h1 : w.cell? ⟨b, 1, none⟩ = some (.int .i64 n) := (hb.cell 1).trans ndX_n
  simp [go_sem, h0, h1]
theorem ld_ndA {t : TypeId} {a n : Int} {cs : Array Value} {h : Bool} {l r : Value} (hb : Blk w b t (ndX a n cs h l r)) : (Instr.loadAt 23 (.pointer (some ⟨b, 0, none⟩))).run Try.prog w = .ok (.int .u32 a) w := by
  have h0 : w.cell? ⟨b, 0, none⟩ = some (.int .u32 a) := (hb.cell 0).trans ndX_a
  simp [go_sem, h0]
theorem ld_ndN {t : TypeId} {a n : Int} {cs : Array Value} {h : Bool} {l r : Value} (hb : Blk w b t (ndX a n cs h l r)) : (Instr.loadAt 3 (.pointer (some ⟨b, 1, none⟩))).run Try.prog w = .ok (.int .i64 n) w := by
  have h1 : w.cell? ⟨b, 1, none⟩ = some (.int .i64 n) := (hb.cell 1).trans ndX_n
  simp [go_sem, h1]
theorem ld_ndH {t : TypeId} {a n : Int} {cs : Array Value} {h : Bool} {l r : Value} (hb : Blk w b t (ndX a n cs h l r)) (hc : cs.size = 257) : (Instr.loadAt 4 (.pointer (some ⟨b, 259, none⟩))).run Try.prog w = .ok (.bool h) w := by
  have h1 : w.cell? ⟨b, 259, none⟩ = some (.bool h) := (hb.cell 259).trans (ndX_h hc)
  simp [go_sem, h1]
theorem ld_ptN {u : Option Addr} (h : w.cell? ⟨b, o, none⟩ = some (.pointer u)) : (Instr.loadAt 103 (.pointer (some ⟨b, o, none⟩))).run Try.prog w = .ok (.pointer u) w := by simp [go_sem, h]
theorem st_ptN {u : Value} (h : w.cell? ⟨b, o, none⟩ = some u) (hf : w.frozen? ⟨b, o, none⟩ = false) (v : Option Addr) : (Instr.storeAt 103 (.pointer (some ⟨b, o, none⟩)) (.pointer v)).run Try.prog w = .ok () (w.setCell ⟨b, o, none⟩ (.pointer v)) := by simp [go_sem, h, hf]
theorem ld_itN {z : Int} (h : w.cell? ⟨b, o, none⟩ = some (.int .i64 z)) : (Instr.loadAt 3 (.pointer (some ⟨b, o, none⟩))).run Try.prog w = .ok (.int .i64 z) w := by simp [go_sem, h]
theorem st_itN {u : Value} (h : w.cell? ⟨b, o, none⟩ = some u) (hf : w.frozen? ⟨b, o, none⟩ = false) (z : Int) : (Instr.storeAt 3 (.pointer (some ⟨b, o, none⟩)) (.int .i64 z)).run Try.prog w = .ok () (w.setCell ⟨b, o, none⟩ (.int .i64 z)) := by simp [go_sem, h, hf]
theorem ld_btN {z : Bool} (h : w.cell? ⟨b, o, none⟩ = some (.bool z)) : (Instr.loadAt 4 (.pointer (some ⟨b, o, none⟩))).run Try.prog w = .ok (.bool z) w := by simp [go_sem, h]
theorem st_btN {u : Value} (h : w.cell? ⟨b, o, none⟩ = some u) (hf : w.frozen? ⟨b, o, none⟩ = false) (z : Bool) : (Instr.storeAt 4 (.pointer (some ⟨b, o, none⟩)) (.bool z)).run Try.prog w = .ok () (w.setCell ⟨b, o, none⟩ (.bool z)) := by simp [go_sem, h, hf]
/-- A way of its own block. -/
theorem ld_wyB {cs : Array Value} (h : Blk w b 33 cs) (hc : cs.size = 257) : (Instr.loadAt 33 (.pointer (some ⟨b, 0, none⟩))).run Try.prog w = .ok (.agg cs) w := stc_load Try.underlying33 rfl wy_info h hc
theorem st_wyB {cs vs : Array Value} (h : Blk w b 33 cs) (hc : cs.size = 257) (hv : vs.size = 257) (h1 : vs.all (·.oneCell') = true) : (Instr.storeAt 33 (.pointer (some ⟨b, 0, none⟩)) (.agg vs)).run Try.prog w = .ok () (w.setCells b 0 vs.toList) := stc_store wy_info h hc hv h1
end
theorem px_info : (Try.prog.info? 25).map (·.size) = some 2 := by kernel_rfl
theorem px_alloc (w : World) : (Instr.alloc 25 true (.tuple #[])).run Try.prog w = .ok (.pointer (some ⟨w.heap.size, 0, none⟩)) (w.alloc (.cells #[.int .u32 0, .int .i64 0] 25)) := by
  unfold Instr.alloc
  rw [Sem.run_bind, show (zeroValue 25).run Try.prog w = .ok (.agg #[.int .u32 0, .int .i64 0]) w by kernel_rfl]
  rfl
theorem bd_fork (w : World) (a n : Int) : (Instr.build 110 #[(0, .agg #[.int .u32 a, .int .i64 n])]).run Try.prog w = .ok (.agg (ndX a n wy0 false (.pointer none) (.pointer none))) w := by kernel_rfl
end Go.Proofs.Ythlommalbkhcjaa
