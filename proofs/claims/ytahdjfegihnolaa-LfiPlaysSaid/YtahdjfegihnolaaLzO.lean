/- Layer 12: may, wrong. -/
import Derived.Test.YtahdjfegihnolaaLzN
namespace Go.Proofs.Ytahdjfegihnolaa
open Go.RowKit Go.Sort
theorem and_u64' (a b : Nat) (ha : a < 2 ^ 64) (hb : b < 2 ^ 64) : bits .and .u64 (a : Int) (b : Int) = ((a &&& b : Nat) : Int) :=
  bits_and_u64_nat a b (by omega) (by omega)
theorem may_bits (a : Nat) (n : Int) (ha : a < 2 ^ 32) (h0 : 0 ≤ n) (h1 : n ≤ 32) : mayP (a, n) = (bits .and .u64 (IntKind.u64.wrap ((a : Int) * 2 ^ n.toNat)) 4294967295 == 0) := by
  obtain ⟨m, rfl⟩ : ∃ m : Nat, n = m := ⟨n.toNat, by omega⟩
  have hm : m ≤ 32 := by omega
  have hlt : a * 2 ^ m < 2 ^ 64 := by
    have h2 : 2 ^ m ≤ 2 ^ 32 := Nat.pow_le_pow_right (by omega) hm
    have := Nat.mul_lt_mul_of_lt_of_le ha h2 (by decide)
    simpa using this
  have e1 : ((a : Int) * 2 ^ (m : Int).toNat) = ((a * 2 ^ m : Nat) : Int) := by simp
  rw [e1, IntWalk.u64_in _ ⟨by omega, by omega⟩]
  rw [show (4294967295 : Int) = ((2 ^ 32 - 1 : Nat) : Int) by decide]
  rw [and_u64' _ _ hlt (by decide), Nat.and_two_pow_sub_one_eq_mod]
  unfold mayP
  simp only [show (m : Int).toNat = m from rfl]
  rw [decide_eq_true (show (0 : Int) ≤ ((m : Nat) : Int) by omega), decide_eq_true (show ((m : Nat) : Int) ≤ 32 by omega)]
  clear e1 hlt
  generalize a * 2 ^ m = x
  by_cases hx : x % 2 ^ 32 = 0
  · rw [decide_eq_true hx, hx]; rfl
  · rw [decide_eq_false hx]
    symm
    simp only [Bool.and_self, Bool.true_and, beq_eq_false_iff_ne]
    omega
set_option maxRecDepth 100000 in
set_option maxHeartbeats 2000000 in
attribute [-go_sem] Instr.storeAt Instr.loadAt in
theorem may_any (p : Pf) (hp : p.1 < 2 ^ 32) (w : World) :
    Calls Try.prog 25 #[.agg #[.int .u32 (p.1 : Int), .int .i64 p.2]] w fun e w' => e = .returned (.bool (mayP p)) ∧ Below w.heap.size w w' := by
  obtain ⟨W1, hW1⟩ : ∃ Z, Z = w.alloc (.cells #[.int .u32 (p.1 : Int), .int .i64 p.2] 36) := ⟨_, rfl⟩
  have hb1 : Below w.heap.size w W1 := by rw [hW1]; exact (Below.refl _ _).alloc (Nat.le_refl _) _
  have hk : Blk W1 w.heap.size 36 (pfC p) := by rw [hW1]; exact Blk.new _ _ _
  have l1 := ld_iC (w := W1) (b := w.heap.size) (o := 1) (z := p.2) (hk.cell 1)
  have l0 : (Instr.loadAt 34 (.pointer (some ⟨w.heap.size, 0, none⟩))).run Try.prog W1 = .ok (.int .u32 (p.1 : Int)) W1 := by
    have hc := hk.cell 0
    have hc' : W1.cell? ⟨w.heap.size, 0, none⟩ = some (.int .u32 (p.1 : Int)) := hc
    simp [go_sem, Instr.loadAt, hc']
  have HW1 := Lib.hid hW1
  have HB := Lib.hid hb1
  clear hW1 hb1 hk
  obtain ⟨a, n⟩ := p
  dsimp only at *
  go_enter Try.func25, Try.ntmps25
  go_upto_region 1 with (fail)
  rw [← HW1.out]
  by_cases h0 : n < 0
  · have hm : mayP (a, n) = false := by unfold mayP; simp; omega
    have HM := Lib.hid hm
    clear hm
    go_wp2_with fail
    go_ret
    exact ⟨by rw [HM.out]; rfl, HB.out⟩
  · by_cases h32 : 32 < n
    · have hm : mayP (a, n) = false := by unfold mayP; simp; omega
      have HM := Lib.hid hm
      clear hm
      go_wp2_with fail
      go_ret
      exact ⟨by rw [HM.out]; rfl, HB.out⟩
    · go_wp2_with fail
      go_ret
      exact ⟨by rw [may_bits a n hp (by omega) (by omega)]; rfl, HB.out⟩
end Go.Proofs.Ytahdjfegihnolaa
