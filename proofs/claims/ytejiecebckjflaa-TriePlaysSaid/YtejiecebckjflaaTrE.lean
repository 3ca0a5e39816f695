/- Tries: two prefixes compared. -/
import Derived.Test.YtejiecebckjflaaTrM
namespace Go.Proofs.Ytejiecebckjflaa
open Go.RowKit

theorem eql_px (a b : Nat) (m n : Int) (w : World) : (binOp .eql 31 (pxV a m) (pxV b n)).run Try.prog w = .ok (.bool (decide (a = b ∧ m = n))) w := by
  go_simp
  by_cases h1 : (a : Int) = (b : Int)
  · rw [if_pos h1]
    have h1' : a = b := by omega
    by_cases h2 : m = n
    · rw [if_pos h2]; simp [h1', h2]
    · rw [if_neg h2]; simp [h2]
  · rw [if_neg h1]
    have h1' : ¬ a = b := by omega
    simp [h1']
theorem neq_px (a b : Nat) (m n : Int) (w : World) : (binOp .neq 31 (pxV a m) (pxV b n)).run Try.prog w = .ok (.bool (!decide (a = b ∧ m = n))) w := by
  go_simp
  by_cases h1 : (a : Int) = (b : Int)
  · rw [if_pos h1]
    have h1' : a = b := by omega
    by_cases h2 : m = n
    · rw [if_pos h2]; simp [h1', h2]
    · rw [if_neg h2]; simp [h2]
  · rw [if_neg h1]
    have h1' : ¬ a = b := by omega
    simp [h1']
end Go.Proofs.Ytejiecebckjflaa
