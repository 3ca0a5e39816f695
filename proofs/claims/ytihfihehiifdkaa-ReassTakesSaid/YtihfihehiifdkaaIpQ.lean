/- The document's Put, Add, Change, Words, Total, Check, bit. -/
import Derived.Test.YtihfihehiifdkaaIpN
import Derived.LoopN
namespace Go.Proofs.Ytihfihehiifdkaa
open Go.RowKit
theorem row8_lit (w : World) (x : By) (cs : Array Value) (hx : x.length ≤ 140737488355328) (h : cs.toList = bytesV x) : Row8 w.heap.size (w.alloc (.cells cs 5)) (.slice (some ⟨w.heap.size, 0, none⟩) x.length x.length) x := by
  have hs : cs.size = x.length * 1 := by rw [← Array.length_toList, h, bytesV_len, Nat.mul_one]
  have := own_alloc_lit (w := w) w.heap.size 5 1 cs x.length (Nat.le_refl _) (by unfold maxLen; omega) hs
  rw [h] at this
  exact this
set_option maxRecDepth 20000 in
set_option maxHeartbeats 1600000 in
theorem rput1_any (n : Nat) (w : World) (hn : n < 256) :
    Calls Try.prog 71 #[.int .u64 (n : Int), .int .i64 1] w fun e w' => ∃ v, e = .returned v ∧ Row8 w.heap.size w' v (putF n 1) ∧ Below w.heap.size w w' := by
  have hmk : ∀ w : World, (Instr.makeSlice 22 (.int .i64 1) (.int .i64 1)).run Try.prog w = .ok (.slice (some ⟨w.heap.size, 0, none⟩) 1 1) (w.alloc (.cells #[.int .u8 0] 5)) := fun _ => by kernel_rfl
  go_enter Try.func71, Try.ntmps71
  go_wp2_with fail
  refine wp_loop_rounds 2 ?_
  rw [rounds_succ]
  go_wp2_with fail
  rw [rounds_succ]
  go_wp2_with fail
  go_ret
  refine ⟨_, rfl, row8_lit w (putF n 1) _ (by rw [putF_len]; omega) ?_, (Below.refl _ _).alloc (Nat.le_refl _) _⟩
  rw [put1]
  simp only [bytesV, List.map_cons, List.map_nil, u8_nat, List.cons.injEq, Value.int.injEq, true_and, and_true]
  omega
set_option maxRecDepth 20000 in
set_option maxHeartbeats 1600000 in
theorem rput2_any (n : Nat) (w : World) (hn : n < 65536) :
    Calls Try.prog 71 #[.int .u64 (n : Int), .int .i64 2] w fun e w' => ∃ v, e = .returned v ∧ Row8 w.heap.size w' v (putF n 2) ∧ Below w.heap.size w w' := by
  have hmk : ∀ w : World, (Instr.makeSlice 22 (.int .i64 2) (.int .i64 2)).run Try.prog w = .ok (.slice (some ⟨w.heap.size, 0, none⟩) 2 2) (w.alloc (.cells #[.int .u8 0, .int .u8 0] 5)) := fun _ => by kernel_rfl
  go_enter Try.func71, Try.ntmps71
  go_wp2_with fail
  refine wp_loop_rounds 3 ?_
  rw [rounds_succ]
  go_wp2_with fail
  rw [rounds_succ]
  go_wp2_with fail
  rw [rounds_succ]
  go_wp2_with fail
  go_ret
  refine ⟨_, rfl, row8_lit w (putF n 2) _ (by rw [putF_len]; omega) ?_, (Below.refl _ _).alloc (Nat.le_refl _) _⟩
  rw [put2]
  simp only [bytesV, List.map_cons, List.map_nil, u8_nat, List.cons.injEq, Value.int.injEq, true_and, and_true]
  omega
set_option maxRecDepth 20000 in
set_option maxHeartbeats 1600000 in
theorem rput4_any (n : Nat) (w : World) (hn : n < 4294967296) :
    Calls Try.prog 71 #[.int .u64 (n : Int), .int .i64 4] w fun e w' => ∃ v, e = .returned v ∧ Row8 w.heap.size w' v (putF n 4) ∧ Below w.heap.size w w' := by
  have hmk : ∀ w : World, (Instr.makeSlice 22 (.int .i64 4) (.int .i64 4)).run Try.prog w = .ok (.slice (some ⟨w.heap.size, 0, none⟩) 4 4) (w.alloc (.cells #[.int .u8 0, .int .u8 0, .int .u8 0, .int .u8 0] 5)) := fun _ => by kernel_rfl
  go_enter Try.func71, Try.ntmps71
  go_wp2_with fail
  refine wp_loop_rounds 5 ?_
  rw [rounds_succ]
  go_wp2_with fail
  rw [rounds_succ]
  go_wp2_with fail
  rw [rounds_succ]
  go_wp2_with fail
  rw [rounds_succ]
  go_wp2_with fail
  rw [rounds_succ]
  go_wp2_with fail
  go_ret
  refine ⟨_, rfl, row8_lit w (putF n 4) _ (by rw [putF_len]; omega) ?_, (Below.refl _ _).alloc (Nat.le_refl _) _⟩
  rw [put4]
  simp only [bytesV, List.map_cons, List.map_nil, u8_nat, List.cons.injEq, Value.int.injEq, true_and, and_true]
  omega
theorem ret_u16 {a b : Int} (h : a = b) : Ending.returned (.int .u16 a) = .returned (.int .u16 b) := by rw [h]
theorem add_any (x y : Nat) (w : World) (hx : x < 65536) (hy : y < 65536) :
    Calls Try.prog 110 #[.int .u16 (x : Int), .int .u16 (y : Int)] w fun e w' => e = .returned (.int .u16 (addF x y : Int)) ∧ w = w' := by
  go_enter Try.func110, Try.ntmps110
  go_wp2_with fail
  go_ret
  refine ⟨ret_u16 ?_, rfl⟩
  show IntKind.u16.wrap _ = _
  rw [IntKind.wrap_u16]
  unfold addF
  split <;> omega
set_option maxRecDepth 20000 in
theorem radd_any (x y : Nat) (w : World) (hx : x < 65536) (hy : y < 65536) :
    Calls Try.prog 92 #[.int .u16 (x : Int), .int .u16 (y : Int)] w fun e w' => e = .returned (.int .u16 (addF x y : Int)) ∧ w = w' := by
  by_cases h : 65536 ≤ x + y
  · have hd : decide ((65536 : Int) ≤ (x : Int) + (y : Int)) = true := decide_eq_true (by omega)
    have H := Lib.hid h
    clear h
    go_enter Try.func92, Try.ntmps92
    go_wp2_with fail
    go_ret
    refine ⟨ret_u16 ?_, rfl⟩
    unfold addF
    rw [if_pos H.out]
    have := H.out
    omega
  · have hd : decide ((65536 : Int) ≤ (x : Int) + (y : Int)) = false := decide_eq_false (by omega)
    have H := Lib.hid h
    clear h
    go_enter Try.func92, Try.ntmps92
    go_wp2_with fail
    go_ret
    refine ⟨ret_u16 ?_, rfl⟩
    unfold addF
    rw [if_neg H.out]
    have := H.out
    omega
theorem xor_ones (c : Nat) (hc : c < 65536) : 65535 ^^^ c = 65535 - c := by
  have h1 : (~~~ (BitVec.ofNat 16 c)).toNat = 2 ^ 16 - 1 - (BitVec.ofNat 16 c).toNat := BitVec.toNat_not
  rw [BitVec.not_def, BitVec.toNat_xor, BitVec.toNat_ofNat, Nat.mod_eq_of_lt (by omega)] at h1
  exact h1
theorem not16 (c : Nat) (hc : c < 65536) : bits .xor .u16 IntKind.u16.max (c : Int) = ((65535 - c : Nat) : Int) := by
  have h := u16_xor_nat 65535 c (by omega) hc
  rw [xor_ones c hc] at h
  exact h
end Go.Proofs.Ytihfihehiifdkaa
