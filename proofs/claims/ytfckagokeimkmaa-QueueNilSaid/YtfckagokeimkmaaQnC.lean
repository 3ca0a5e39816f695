/- A line and a bucket that are not there, and zero ones. -/
import Derived.Test.YtfckagokeimkmaaLn
import Derived.RangeFuncNested
import Derived.RangeFuncBound
import Derived.RangeFuncCalls
import Derived.RangeFuncLeaves
import Derived.Shelf.Abstract
import Derived.OwnWalkIn
import Derived.TacticsInMore
import Derived.LoopNIn
import Derived.LoopIn
namespace Go.Proofs.Ytfckagokeimkmaa
open Go.RowKit

def NilL (w : World) (pv : Value) : Prop := pv = .pointer none ∨ ∃ b, pv = .pointer (some ⟨b, 0, none⟩) ∧ Blk w b 52 #[.int .i64 0, .slice none 0 0, .int .i64 0, .bool false]
def NilB (w : World) (pv : Value) : Prop := pv = .pointer none ∨ ∃ b, pv = .pointer (some ⟨b, 0, none⟩) ∧ Blk w b 54 #[.int .i64 0, .int .i64 0, .int .i64 0, .int .i64 0]
theorem NilL.alloc {w : World} {pv : Value} (h : NilL w pv) (o : Obj) : NilL (w.alloc o) pv := by
  rcases h with h | ⟨b, h, k⟩
  · exact .inl h
  · exact .inr ⟨b, h, k.alloc o⟩
theorem NilL.ofHeap {w w2 : World} {pv : Value} (h : NilL w pv) (e : w2.heap = w.heap) : NilL w2 pv := by
  rcases h with h | ⟨b, h, k⟩
  · exact .inl h
  · exact .inr ⟨b, h, by unfold Blk at *; rw [e]; exact k⟩
theorem NilB.ofHeap {w w2 : World} {pv : Value} (h : NilB w pv) (e : w2.heap = w.heap) : NilB w2 pv := by
  rcases h with h | ⟨b, h, k⟩
  · exact .inl h
  · exact .inr ⟨b, h, by unfold Blk at *; rw [e]; exact k⟩

theorem thereL_nil (w : World) (pv : Value) (h : NilL w pv) :
    Calls Try.prog 21 #[pv] w fun e w' => e = .returned (.bool false) ∧ w = w' := by
  rcases h with rfl | ⟨b, rfl, h⟩
  · go_enter Try.func21, Try.ntmps21
    go_wp2
    go_ret
    exact ⟨rfl, rfl⟩
  · have hc : w.cell? ⟨b, 3, none⟩ = some (.bool false) := h.cell 3
    clear h
    go_enter Try.func21, Try.ntmps21
    go_wp2
    go_ret
    exact ⟨rfl, rfl⟩

theorem lenL_nil (w : World) (pv : Value) (h : NilL w pv) : Calls Try.prog 19 #[pv] w fun e w' => e = .returned (.int .i64 0) ∧ w = w' := by
  have HT := Lib.hid (thereL_nil w pv h)
  clear h
  go_enter Try.func19, Try.ntmps19
  go_wp2_with (go_at_call 21; refine (HT.out).mono ?_; rintro e w' ⟨rfl, rfl⟩)
  go_ret
  exact ⟨rfl, rfl⟩

theorem droppedL_nil (w : World) (pv : Value) (h : NilL w pv) : Calls Try.prog 12 #[pv] w fun e w' => e = .returned (.int .i64 0) ∧ w = w' := by
  have HT := Lib.hid (thereL_nil w pv h)
  clear h
  go_enter Try.func12, Try.ntmps12
  go_wp2_with (go_at_call 21; refine (HT.out).mono ?_; rintro e w' ⟨rfl, rfl⟩)
  go_ret
  exact ⟨rfl, rfl⟩

theorem copyL_nil (w : World) (pv : Value) (h : NilL w pv) : Calls Try.prog 18 #[pv] w fun e w' => e = .returned (.pointer none) ∧ w = w' := by
  have HT := Lib.hid (thereL_nil w pv h)
  clear h
  go_enter Try.func18, Try.ntmps18
  go_wp2_with (go_at_call 21; refine (HT.out).mono ?_; rintro e w' ⟨rfl, rfl⟩)
  go_ret
  exact ⟨rfl, rfl⟩

theorem putL_nil (w : World) (pv : Value) (h : NilL w pv) : Calls Try.prog 10 #[pv, .slice none 0 0] w fun e w' => e = .returned (.int .i64 1) ∧ w = w' := by
  have HT := Lib.hid (thereL_nil w pv h)
  clear h
  go_enter Try.func10, Try.ntmps10
  go_wp2_with (go_at_call 21; refine (HT.out).mono ?_; rintro e w' ⟨rfl, rfl⟩)
  go_ret
  exact ⟨rfl, rfl⟩

theorem getL_nil (w : World) (pv : Value) (h : NilL w pv) : Calls Try.prog 11 #[pv] w fun e w' => e = .returned (.tuple #[.slice none 0 0, .bool false]) ∧ w = w' := by
  have HT := Lib.hid (thereL_nil w pv h)
  clear h
  go_enter Try.func11, Try.ntmps11
  go_wp2_with (go_at_call 21; refine (HT.out).mono ?_; rintro e w' ⟨rfl, rfl⟩)
  go_ret2
  exact ⟨rfl, rfl⟩

theorem allL_nil (w : World) (pv : Value) (h : NilL w pv) : Calls Try.prog 20 #[pv] w fun e w' => e = .returned (.func (.func 24) #[] #[.pointer (some ⟨w.heap.size, 0, none⟩)]) ∧ w' = w.alloc (.cells #[.slice none 0 0] 22) := by
  have HT := Lib.hid (thereL_nil _ pv (h.alloc (.cells #[.slice none 0 0] 22)))
  clear h
  go_enter Try.func20, Try.ntmps20
  go_wp2_with (go_at_call 21; refine (HT.out).mono ?_; rintro e w' ⟨rfl, rfl⟩)
  go_ret
  exact ⟨rfl, rfl⟩

theorem takeB_nil (w : World) (pv : Value) (h : NilB w pv) : Calls Try.prog 14 #[pv] w fun e w' => e = .returned (.bool false) ∧ w = w' := by
  rcases h with rfl | ⟨b, rfl, h⟩
  · go_enter Try.func14, Try.ntmps14
    go_wp2
    go_ret
    exact ⟨rfl, rfl⟩
  · have hc1 : w.cell? ⟨b, 1, none⟩ = some (.int .i64 0) := h.cell 1
    have hc2 : w.cell? ⟨b, 2, none⟩ = some (.int .i64 0) := h.cell 2
    clear h
    go_enter Try.func14, Try.ntmps14
    go_wp2
    go_ret
    exact ⟨rfl, rfl⟩

theorem hasB_nil (w : World) (pv : Value) (h : NilB w pv) : Calls Try.prog 16 #[pv] w fun e w' => e = .returned (.int .i64 0) ∧ w = w' := by
  rcases h with rfl | ⟨b, rfl, h⟩
  · go_enter Try.func16, Try.ntmps16
    go_wp2
    go_ret
    exact ⟨rfl, rfl⟩
  · have hc1 : w.cell? ⟨b, 1, none⟩ = some (.int .i64 0) := h.cell 1
    have hc2 : w.cell? ⟨b, 2, none⟩ = some (.int .i64 0) := h.cell 2
    clear h
    go_enter Try.func16, Try.ntmps16
    go_wp2
    go_ret
    exact ⟨rfl, rfl⟩

theorem copyB_nil (w : World) (pv : Value) (h : NilB w pv) : Calls Try.prog 17 #[pv] w fun e w' => e = .returned (.pointer none) ∧ w = w' := by
  rcases h with rfl | ⟨b, rfl, h⟩
  · go_enter Try.func17, Try.ntmps17
    go_wp2
    go_ret
    exact ⟨rfl, rfl⟩
  · have hc1 : w.cell? ⟨b, 1, none⟩ = some (.int .i64 0) := h.cell 1
    have hc2 : w.cell? ⟨b, 2, none⟩ = some (.int .i64 0) := h.cell 2
    clear h
    go_enter Try.func17, Try.ntmps17
    go_wp2
    go_ret
    exact ⟨rfl, rfl⟩

theorem tickB_nil (w : World) (pv : Value) (h : NilB w pv) : Calls Try.prog 15 #[pv] w fun e w' => e = .returned (.tuple #[]) ∧ w = w' := by
  rcases h with rfl | ⟨b, rfl, h⟩
  · go_enter Try.func15, Try.ntmps15
    go_wp2
    refine bodyPost_ret (results_none rfl _ _ _) rfl ?_
    exact ⟨rfl, rfl⟩
  · have hc1 : w.cell? ⟨b, 1, none⟩ = some (.int .i64 0) := h.cell 1
    have hc2 : w.cell? ⟨b, 2, none⟩ = some (.int .i64 0) := h.cell 2
    clear h
    go_enter Try.func15, Try.ntmps15
    go_wp2
    refine bodyPost_ret (results_none rfl _ _ _) rfl ?_
    exact ⟨rfl, rfl⟩

attribute [local go_sem] Oper.semAt_some

set_option maxRecDepth 100000 in
set_option maxHeartbeats 1000000 in
/-- The closure of All over no items: no round. -/
theorem all1_nil (F : Fence) (n : Nat) (hf : F.fn 24) (hro : F.round = none) (l Bs : Nat) (J : List (Nat × List UInt8) → World → Prop) (W : World) (hBs : W.cell? ⟨Bs, 0, none⟩ = some (.slice none 0 0)) (h0 : J [] W) :
    CallsIn F n Try.prog 24 #[.func (.yield l) #[] #[], .pointer (some ⟨Bs, 0, none⟩)] W fun e W' => (∃ v, e = .returned v) ∧ J [] W' := by
  refine callsIn_of_wp Try.func24 rfl hf ?_ hro
  simp only [Try.ntmps24, List.size_toArray, List.length_cons, List.length_nil, Nat.reduceAdd, Nat.reduceSub, Array.replicate_succ, Array.replicate_zero, List.push_toArray, List.append_toArray, List.nil_append, List.cons_append]
  gi_wp2
  gi_loopw [7] (fun i wr => i = .int .i64 0 ∧ J [] wr) (fun _ _ => 0)
  case atStart => exact ⟨rfl, h0⟩
  case round =>
    obtain ⟨rfl, hJs⟩ := hrel
    gi_wp2
    go_end0
    exact ⟨⟨_, rfl⟩, hJs⟩

theorem all_stops_nil (F : Fence) (n : Nat) (hf : F.fn 24) (hro : F.round = none) (Bs : Nat) (w : World) (hBs : Bs < w.heap.size) (hc : w.cell? ⟨Bs, 0, none⟩ = some (.slice none 0 0)) :
    SeqStopsK F n Try.prog 24 #[.pointer (some ⟨Bs, 0, none⟩)] (fun _ : Nat × List UInt8 => #[.int .i64 0, .slice none 0 0]) KeepsWalks (fun ys => ys = []) (fun _ => False) 0 w := fun l J _ W hW _ _ _ h0 =>
  (all1_nil F n hf hro l Bs J W ((hW.cell (p := ⟨Bs, 0, none⟩) hBs).trans hc) h0).mono fun _ _ ⟨he, hj⟩ => ⟨he, .inl ⟨_, rfl, hj⟩⟩
end Go.Proofs.Ytfckagokeimkmaa
