/- Headers in memory, reading and storing: what many walks use. -/
import Derived.Test.YtihfihehiifdkaaIpX
import Derived.Test.YtihfihehiifdkaaIpY
import Derived.Test.YtihfihehiifdkaaIpH
import Derived.Test.YtihfihehiifdkaaIpC
import Derived.Deep.DeepCutAuto
import Derived.Deep.CutBlock
import Derived.Deep.RegionWith
import Derived.Laws.IdiomCopy
namespace Go.Proofs.Ytihfihehiifdkaa
open Go.RowKit Go.Sort Go.BigFrame
theorem part_le (x : By) (a b : Nat) : (partF x a b).length ≤ x.length := by unfold partF; rw [List.length_drop, List.length_take]; omega
theorem prs_len (x : By) : (prsF x).2.1.length ≤ x.length ∧ (prsF x).1.opts.length ≤ x.length := by
  unfold prsF
  split
  · exact ⟨part_le _ _ _, by unfold hdF; exact part_le _ _ _⟩
  · exact ⟨Nat.zero_le _, Nat.zero_le _⟩
/-- A header's variable, new, with what stands there. -/
theorem hd_var {B : Nat} {w w1 : World} (hb : Below B w w1) (hB : B ≤ w1.heap.size) (h : Hd) (A : Option Addr) (n c : Nat) : ∃ w2, (Instr.storeAt 32 (.pointer (some ⟨w1.heap.size, 0, none⟩)) (hdV h (.slice A n c))).run Try.prog (w1.alloc (.cells #[.int .u8 0, .int .u16 0, .bool false, .bool false, .bool false, .int .i64 0, .int .u8 0, .int .u8 0, .int .u32 0, .int .u32 0, .slice none 0 0] 32)) = .ok () w2 ∧ Below B w w2 ∧ Below w1.heap.size w1 w2 ∧ Blk w2 w1.heap.size 32 (hdC h (.slice A n c)) :=
  ⟨_, hd_store (vs := hdC h (.slice A n c)) (Blk.new w1 _ _) rfl rfl (by simp [hdC, Value.oneCell']), below_setCells hB _ 0 _ (hb.alloc hB _), below_setCells (Nat.le_refl _) _ 0 _ ((Below.refl _ _).alloc (Nat.le_refl _) _), blk_setCells (Blk.new w1 _ _) rfl⟩
theorem st8 {w : World} {g i : Nat} {u : Value} (hu : w.cell? ⟨g, i, none⟩ = some u) (hf : w.frozen? ⟨g, i, none⟩ = false) (b : Int) : (Instr.storeAt 5 (.pointer (some ⟨g, i, none⟩)) (.int .u8 b)).run Try.prog w = .ok () (w.setCell ⟨g, i, none⟩ (.int .u8 b)) := by
  simp [go_sem, hu, hf]
theorem ld8s {w : World} {g i : Nat} {A : Option Addr} {n c : Nat} (hu : w.cell? ⟨g, i, none⟩ = some (.slice A n c)) : (Instr.loadAt 22 (.pointer (some ⟨g, i, none⟩))).run Try.prog w = .ok (.slice A n c) w := by
  simp [go_sem, hu]
theorem part_lt (x : By) (a b k : Nat) (h : b - a ≤ k) : getF (partF x a b) < 256 ^ k := by
  refine Nat.lt_of_lt_of_le (getF_lt _) (Nat.pow_le_pow_right (by decide) ?_)
  unfold partF
  rw [List.length_drop, List.length_take]
  omega
theorem hdF_ok (x : By) : (hdF x).ok := by
  refine ⟨UInt8.toNat_lt _, ?_, UInt8.toNat_lt _, UInt8.toNat_lt _, ?_, ?_⟩
  · exact part_lt x 4 6 2 (by decide)
  · exact part_lt x 12 16 4 (by decide)
  · exact part_lt x 16 20 4 (by decide)
theorem prs_ok (x : By) : (prsF x).1.ok := by
  unfold prsF
  split
  · exact hdF_ok x
  · exact (show hd0.ok from ⟨by decide, by decide, by decide, by decide, by decide, by decide⟩)
theorem ld_u32s {w : World} {g i : Nat} {z : Int} (hu : w.cell? ⟨g, i, none⟩ = some (.int .u32 z)) : (Instr.loadAt 24 (.pointer (some ⟨g, i, none⟩))).run Try.prog w = .ok (.int .u32 z) w := by
  simp [go_sem, hu]
theorem ld_u8s {w : World} {g i : Nat} {z : Int} (hu : w.cell? ⟨g, i, none⟩ = some (.int .u8 z)) : (Instr.loadAt 5 (.pointer (some ⟨g, i, none⟩))).run Try.prog w = .ok (.int .u8 z) w := by
  simp [go_sem, hu]
theorem row_sl {B : Nat} {w : World} {v : Value} {x : By} (h : Row8 B w v x) : Sl8 w (fun _ => True) v x := h.sl.mono fun _ _ => trivial
theorem row_at {B : Nat} {w : World} {g n c : Nat} {x : By} (h : Row8 B w (.slice (some ⟨g, 0, none⟩) n c) x) {i : Nat} {b : UInt8} (hb : x[i]? = some b) : w.cell? ⟨g, i, none⟩ = some (.int .u8 (b.toNat : Int)) := by
  have hc := World.ownsRow.cells (g := g) h rfl i (.int .u8 (b.toNat : Int)) (by simp [bytesV, hb])
  rwa [add_off, Nat.zero_add] at hc
theorem st_int {w : World} {g i : Nat} {u : Value} (hu : w.cell? ⟨g, i, none⟩ = some u) (hf : w.frozen? ⟨g, i, none⟩ = false) (z : Int) : (Instr.storeAt 3 (.pointer (some ⟨g, i, none⟩)) (.int .i64 z)).run Try.prog w = .ok () (w.setCell ⟨g, i, none⟩ (.int .i64 z)) := by
  simp [go_sem, hu, hf]
theorem st_true {w : World} {g i : Nat} {u : Value} (hu : w.cell? ⟨g, i, none⟩ = some u) (hf : w.frozen? ⟨g, i, none⟩ = false) : (Instr.storeAt 4 (.pointer (some ⟨g, i, none⟩)) (.bool true)).run Try.prog w = .ok () (w.setCell ⟨g, i, none⟩ (.bool true)) := by
  simp [go_sem, hu, hf]
theorem st_8s {w : World} {g i : Nat} {u : Value} (hu : w.cell? ⟨g, i, none⟩ = some u) (hf : w.frozen? ⟨g, i, none⟩ = false) (A : Option Addr) (n c : Nat) : (Instr.storeAt 22 (.pointer (some ⟨g, i, none⟩)) (.slice A n c)).run Try.prog w = .ok () (w.setCell ⟨g, i, none⟩ (.slice A n c)) := by
  simp [go_sem, hu, hf]
theorem ld_int {w : World} {a : Addr} {z : Int} (hu : w.cell? a = some (.int .i64 z)) : (Instr.loadAt 3 (.pointer (some a))).run Try.prog w = .ok (.int .i64 z) w := by
  simp [go_sem, hu]
theorem ld_bool {w : World} {a : Addr} {b : Bool} (hu : w.cell? a = some (.bool b)) : (Instr.loadAt 4 (.pointer (some a))).run Try.prog w = .ok (.bool b) w := by
  simp [go_sem, hu]
theorem cell_lt {w : World} {p : Addr} {u : Value} (h : w.cell? p = some u) : p.block < w.heap.size := World.block_lt_of_cell? w p h
theorem bytes_beq (x y : By) : ((⟨x.toArray⟩ : ByteArray) == ⟨y.toArray⟩) = (x == y) := by
  show (x.toArray == y.toArray) = (x == y)
  simp
theorem st_boolv {w : World} {g i : Nat} {u : Value} (hu : w.cell? ⟨g, i, none⟩ = some u) (hf : w.frozen? ⟨g, i, none⟩ = false) (b : Bool) : (Instr.storeAt 4 (.pointer (some ⟨g, i, none⟩)) (.bool b)).run Try.prog w = .ok () (w.setCell ⟨g, i, none⟩ (.bool b)) := by
  simp [go_sem, hu, hf]
theorem ld8a {w : World} {a : Addr} {A : Option Addr} {n c : Nat} (hu : w.cell? a = some (.slice A n c)) : (Instr.loadAt 22 (.pointer (some a))).run Try.prog w = .ok (.slice A n c) w := by
  simp [go_sem, hu]
section
variable {B : Nat} {w : World} {v : Value} {x : By}
/-- A row with elements: its block. -/
theorem Row8.blk (h : Row8 B w v x) (hx : 0 < x.length) : ∃ g cap, v = .slice (some ⟨g, 0, none⟩) x.length cap ∧ x.length ≤ cap ∧ B ≤ g ∧ ∃ cur, Blk w g 5 cur ∧ ∀ (i : Nat) (u : Value), (bytesV x)[i]? = some u → cur[i]? = some u := by
  obtain ⟨A, c, rfl, hc⟩ := h.form
  rcases h.2 with ⟨h2, _⟩ | ⟨g2, c2, cur, h2, h3, h4, h5, h6, h7, h8⟩
  · injection h2 with _ h2 _
    omega
  · injection h2 with h2 _ hc2
    subst h2
    refine ⟨g2, c, rfl, hc, (Row8.lt h (g := g2) rfl).1, cur, h4, fun i u hi => ?_⟩
    rw [← h8, List.getElem?_take] at hi
    split at hi
    · simpa using hi
    · cases hi
theorem Row8.set {g n cap i : Nat} {b : UInt8} (h : Row8 B w (.slice (some ⟨g, 0, none⟩) n cap) x) : Row8 B (w.setCell ⟨g, i, none⟩ (.int .u8 (b.toNat : Int))) (.slice (some ⟨g, 0, none⟩) n cap) (x.set i b) := by
  have e : bytesV (x.set i b) = (bytesV x).set i (.int .u8 (b.toNat : Int)) := by simp [bytesV, List.map_set]
  have hl : (x.set i b).length = x.length := List.length_set
  unfold Row8
  rw [e, hl]
  refine ⟨by rw [List.length_set]; exact h.1, .inr ?_⟩
  rcases h.2 with ⟨h2, _⟩ | ⟨g2, c, cur, h2, h3, h4, h5, h6, h7, h8⟩
  · cases h2
  · injection h2 with h2 hn hc
    injection h2 with h2
    injection h2 with h2
    subst h2
    subst hc
    subst hn
    refine ⟨g, cap, cur.setIfInBounds i (.int .u8 (b.toNat : Int)), rfl, h3, Blk.set_ (t := 5) (cs := cur) h4 i _, h5, h6, by rw [Array.size_setIfInBounds]; exact h7, ?_⟩
    rw [Array.toList_setIfInBounds, List.take_set, h8]
end
end Go.Proofs.Ytihfihehiifdkaa
